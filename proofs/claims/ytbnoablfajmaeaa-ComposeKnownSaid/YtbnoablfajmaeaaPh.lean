-- Plain laws of the row law10: the forms that are tried; ComposeGroup, ComposeSums.
import Derived.Test.YtbnoablfajmaeaaPg
namespace Go.Proofs.Ytbnoablfajmaeaa.Pure
open Go Go.Proofs.Ytbnoablfajmaeaa.Ev
open Go.Proofs.Ytbnoablfajmaeaa.NatL (ab ab_cases ab_nonneg ab_of ab_zero GT gcdI gcdI_nonneg gcdI_left gcdI_right gcd_ab0 ab_dvd tA tB wu64_id wu64_mod tmod_nn fdiv_pow)
open Go.Proofs.Ytbnoablfajmaeaa.Mod (Fo Hm PM E)
set_option linter.unusedVariables false
set_option linter.unusedSimpArgs false

theorem within_loop {N : Nat} (hN : 1000000001 < N) {R : Type} {d b n : Int} (hd : d < 0) (hd1 : -4294967296 ≤ d) (hn : 4 * n = b * b - d) (n0 : 0 ≤ n) (n1 : n ≤ 1000000) (hb : -100 ≤ b ∧ b ≤ 100) (x7 x8 x9 x10 x11 x12 : Int) (k0 : Int → Int → Int → Int → Int → Int → Option R) (kr : Int → Int → Int → Option R) : ∀ (f : Nat) (a : Int), a ≤ 1000 → a < f →
    (∃ x y z, Val d x y z ∧ parquetlaw10_within.l10 N f b n a x7 x8 x9 x10 x11 x12 k0 kr = kr x y z) ∨ parquetlaw10_within.l10 N f b n a x7 x8 x9 x10 x11 x12 k0 kr = k0 x7 x8 x9 x10 x11 x12 ∨ f = 0 := by
  intro f
  induction f with
  | zero => intro a _ _; exact Or.inr (Or.inr rfl)
  | succ f ih =>
    intro a ha hf
    rw [parquetlaw10_within.l10]
    by_cases h : a > 0
    · have cz : (!(a == 0)) = true := by
        have : (a == 0) = false := beq_eq_false_iff_ne.mpr (by omega)
        rw [this]; rfl
      have w1 : wi64 (a - 1) = a - 1 := wi64_id (by omega) (by omega)
      have next := (ih (a - 1) (by omega) (by omega))
      have next' : (∃ x y z, Val d x y z ∧ parquetlaw10_within.l10 N f b n (a - 1) x7 x8 x9 x10 x11 x12 k0 kr = kr x y z) ∨ parquetlaw10_within.l10 N f b n (a - 1) x7 x8 x9 x10 x11 x12 k0 kr = k0 x7 x8 x9 x10 x11 x12 ∨ f + 1 = 0 := by
        rcases next with h1 | h1 | h1
        · exact Or.inl h1
        · exact Or.inr (Or.inl h1)
        · omega
      rw [decide_eq_true h, cz, w1, tmod_nn n0]
      simp only [cond_true]
      by_cases h2 : n % a = 0
      · have q0 : 0 ≤ n / a := Int.ediv_nonneg n0 (by omega)
        have q1 : n / a ≤ n := Int.ediv_le_self _ n0
        have w2 : wi64 (Int.tdiv n a) = n / a := by rw [Int.tdiv_eq_ediv_of_nonneg n0, wi64_id (by omega) (by omega)]
        have c2 : (n % a == 0) = true := beq_iff_eq.mpr h2
        rw [c2, w2]
        simp only [cond_true]
        rcases check_fine N a b (n / a) with ⟨h3, h4⟩ | ⟨h3, e, h4, h5⟩
        · have c0 : ((0 : Int) == 0) = true := rfl
          rw [h4]
          simp only [Option.bind_some, c0, cond_true]
          rw [content_model hN h3.inb]
          simp only [Option.bind_some]
          by_cases h6 : gcdI (gcdI a b) (n / a) = 1
          · have c1 : (gcdI (gcdI a b) (n / a) == 1) = true := beq_iff_eq.mpr h6
            rw [c1]
            refine Or.inl ⟨a, b, n / a, ⟨h3, ⟨?_⟩, (prim_iff _ _ _).mpr h6⟩, rfl⟩
            have := Int.mul_ediv_add_emod n a
            have e4 : 4 * a * (n / a) = 4 * (a * (n / a)) := by grind
            omega
          · have c1 : (gcdI (gcdI a b) (n / a) == 1) = false := beq_eq_false_iff_ne.mpr h6
            rw [c1]
            exact next'
        · have c0 : (e == 0) = false := beq_eq_false_iff_ne.mpr h4
          rw [h5]
          simp only [Option.bind_some, c0, cond_false]
          exact next'
      · have c2 : (n % a == 0) = false := beq_eq_false_iff_ne.mpr h2
        rw [c2]
        exact next'
    · rw [decide_eq_false h]
      exact Or.inr (Or.inl rfl)

/-- The discriminant that a number stands for. -/
def D (m : Int) : Int := if Int.tmod (-(m % 65000) - 3) 4 = -1 ∨ Int.tmod (-(m % 65000) - 3) 4 = -2 then -(m % 65000) - 3 - 2 else -(m % 65000) - 3
theorem D_told {m : Int} (h : 0 ≤ m) : D m < 0 ∧ -70000 ≤ D m ∧ (D m % 4 = 0 ∨ D m % 4 = 1) := by
  have t : Int.tmod (-(m % 65000) - 3) 4 = -((m % 65000 + 3) % 4) := by
    have e : -(m % 65000) - 3 = -(m % 65000 + 3) := by omega
    rw [e, Int.neg_tmod, Int.tmod_eq_emod_of_nonneg (by omega)]
  unfold D
  rw [t]
  split
  · omega
  · omega

/-- A form of that discriminant, primitive. -/
theorem within_told {N : Nat} (hN : 1000000001 < N) {m k : Int} (m0 : 0 ≤ m) (m1 : m < 4294967296) (k0 : 0 ≤ k) (k1 : k < 65536) : ∃ a b c, parquetlaw10_within.f N m k = some (a, b, c) ∧ Val (D m) a b c := by
  have hD := D_told m0
  -- for any such discriminant
  have gen : ∀ d : Int, d < 0 → -70000 ≤ d → (d % 4 = 0 ∨ d % 4 = 1) → ∃ a b c, ((compose_One.f N d).bind fun r61 =>
      bif (Int.tmod (wi64 ((wi64 ((wi64 ((wi64 (Int.tmod k 200)) - 100)) * (wi64 ((wi64 (Int.tmod k 200)) - 100)))) - d)) 4) != 0 then
        parquetlaw10_within.l10 N N (wi64 ((wi64 ((wi64 (Int.tmod k 200)) - 100)) + 1)) (wi64 (Int.tdiv (wi64 ((wi64 ((wi64 ((wi64 ((wi64 (Int.tmod k 200)) - 100)) + 1)) * (wi64 ((wi64 ((wi64 (Int.tmod k 200)) - 100)) + 1)))) - d)) 4)) (wi64 ((wi64 (Int.tmod k 50)) + 1)) 0 0 0 r61.1 r61.2.1 r61.2.2.1
          (fun y62 y63 y64 y65 y66 y67 =>
            some (y65, y66, y67))
          (fun y68 y69 y70 =>
            some (y68, y69, y70))
      else
      parquetlaw10_within.l10 N N (wi64 ((wi64 (Int.tmod k 200)) - 100)) (wi64 (Int.tdiv (wi64 ((wi64 ((wi64 ((wi64 (Int.tmod k 200)) - 100)) * (wi64 ((wi64 (Int.tmod k 200)) - 100)))) - d)) 4)) (wi64 ((wi64 (Int.tmod k 50)) + 1)) 0 0 0 r61.1 r61.2.1 r61.2.2.1
        (fun y71 y72 y73 y74 y75 y76 =>
          some (y74, y75, y76))
        (fun y77 y78 y79 =>
          some (y77, y78, y79))) = some (a, b, c) ∧ Val d a b c := by
    intro d hd hd1 hd4
    obtain ⟨ob, oc, eo, ro⟩ := one_told N hd (by omega) hd4
    have vo := ro.red.val hd (by omega)
    have w1 : wi64 (Int.tmod k 200) = k % 200 := by rw [tmod_nn k0, wi64_id (by omega) (by omega)]
    have w2 : wi64 (k % 200 - 100) = k % 200 - 100 := wi64_id (by omega) (by omega)
    have w3 : wi64 (wi64 (Int.tmod k 50) + 1) = k % 50 + 1 := by rw [tmod_nn k0, wi64_id (n := k % 50) (by omega) (by omega), wi64_id (by omega) (by omega)]
    rw [eo, w1, w2, w3]
    simp only [Option.bind_some]
    have hb0 : -100 ≤ k % 200 - 100 ∧ k % 200 - 100 ≤ 99 := by omega
    generalize k % 200 - 100 = b at *
    have ha : k % 50 + 1 ≤ 1000 ∧ k % 50 + 1 < 1000 := by omega
    generalize k % 50 + 1 = a at *
    have sq : ∀ x : Int, -100 ≤ x → x ≤ 100 → 0 ≤ x * x ∧ x * x ≤ 10000 := fun x h1 h2 => by
      have := mul_bound (X := 100) (Y := 100) h1 h2 h1 h2
      have := sq_nonneg x
      omega
    obtain ⟨s0, s1⟩ := sq b (by omega) (by omega)
    obtain ⟨s2, s3⟩ := sq (b + 1) (by omega) (by omega)
    have w4 : wi64 (b * b) = b * b := wi64_id (by omega) (by omega)
    have w5 : wi64 (b + 1) = b + 1 := wi64_id (by omega) (by omega)
    have w6 : wi64 ((b + 1) * (b + 1)) = (b + 1) * (b + 1) := wi64_id (by omega) (by omega)
    have w7 : wi64 (b * b - d) = b * b - d := wi64_id (by omega) (by omega)
    have w8 : wi64 ((b + 1) * (b + 1) - d) = (b + 1) * (b + 1) - d := wi64_id (by omega) (by omega)
    have w9 : wi64 (Int.tdiv (b * b - d) 4) = (b * b - d) / 4 := by rw [Int.tdiv_eq_ediv_of_nonneg (by omega), wi64_id (by omega) (by omega)]
    have w10 : wi64 (Int.tdiv ((b + 1) * (b + 1) - d) 4) = ((b + 1) * (b + 1) - d) / 4 := by rw [Int.tdiv_eq_ediv_of_nonneg (by omega), wi64_id (by omega) (by omega)]
    rw [w4, w7, w5, w6, w8, w9, w10, tmod_nn (x := b * b - d) (by omega)]
    have par : (b * b) % 4 = b % 2 := by
      have e : b * b = 4 * (b / 2 * (b / 2) + b / 2 * (b % 2)) + b % 2 * (b % 2) := by
        have h : b = 2 * (b / 2) + b % 2 := by omega
        have : b * b = (2 * (b / 2) + b % 2) * (2 * (b / 2) + b % 2) := by rw [← h]
        rw [this]; grind
      have h3 : b % 2 = 0 ∨ b % 2 = 1 := by omega
      rcases h3 with h3 | h3 <;> rw [h3] at e ⊢ <;> omega
    have e2 : (b + 1) * (b + 1) = b * b + 2 * b + 1 := by grind
    by_cases hc : (b * b - d) % 4 = 0
    · have c : ((b * b - d) % 4 != 0) = false := by rw [hc]; rfl
      rw [c]
      simp only [cond_false]
      rcases within_loop hN hd (by omega) (b := b) (n := (b * b - d) / 4) (by omega) (by omega) (by omega) (by omega) 0 0 0 1 ob oc (fun y71 y72 y73 y74 y75 y76 => some (y74, y75, y76)) (fun y77 y78 y79 => some (y77, y78, y79)) N a (by omega) (by omega) with ⟨x, y, z, h1, h2⟩ | h1 | h1
      · exact ⟨x, y, z, h2, h1⟩
      · exact ⟨1, ob, oc, h1, vo⟩
      · omega
    · have c : ((b * b - d) % 4 != 0) = true := bne_iff_ne.mpr hc
      rw [c]
      simp only [cond_true]
      rcases within_loop hN hd (by omega) (b := b + 1) (n := ((b + 1) * (b + 1) - d) / 4) (by omega) (by omega) (by omega) (by omega) 0 0 0 1 ob oc (fun y71 y72 y73 y74 y75 y76 => some (y74, y75, y76)) (fun y77 y78 y79 => some (y77, y78, y79)) N a (by omega) (by omega) with ⟨x, y, z, h1, h2⟩ | h1 | h1
      · exact ⟨x, y, z, h2, h1⟩
      · exact ⟨1, ob, oc, h1, vo⟩
      · omega
  have v1 : wi64 (Int.tmod m 65000) = m % 65000 := by rw [tmod_nn m0, wi64_id (by omega) (by omega)]
  have v2 : wi64 (0 - m % 65000) = -(m % 65000) := by rw [wi64_id (by omega) (by omega)]; omega
  have v3 : wi64 (-(m % 65000) - 3) = -(m % 65000) - 3 := wi64_id (by omega) (by omega)
  have v4 : wi64 (-(m % 65000) - 3 - 2) = -(m % 65000) - 3 - 2 := wi64_id (by omega) (by omega)
  unfold parquetlaw10_within.f
  rw [v1, v2, v3, v4]
  by_cases h1 : Int.tmod (-(m % 65000) - 3) 4 = -1
  · have c : (Int.tmod (-(m % 65000) - 3) 4 == -1) = true := beq_iff_eq.mpr h1
    have e : D m = -(m % 65000) - 3 - 2 := if_pos (Or.inl h1)
    rw [e] at hD ⊢
    rw [c]
    exact gen _ hD.1 hD.2.1 hD.2.2
  · have c : (Int.tmod (-(m % 65000) - 3) 4 == -1) = false := beq_eq_false_iff_ne.mpr h1
    rw [c]
    simp only [cond_false]
    by_cases h2 : Int.tmod (-(m % 65000) - 3) 4 = -2
    · have c : (Int.tmod (-(m % 65000) - 3) 4 == -2) = true := beq_iff_eq.mpr h2
      have e : D m = -(m % 65000) - 3 - 2 := if_pos (Or.inr h2)
      rw [e] at hD ⊢
      rw [c]
      exact gen _ hD.1 hD.2.1 hD.2.2
    · have c : (Int.tmod (-(m % 65000) - 3) 4 == -2) = false := beq_eq_false_iff_ne.mpr h2
      have e : D m = -(m % 65000) - 3 := if_neg (fun q => q.elim h1 h2)
      rw [e] at hD ⊢
      rw [c]
      exact gen _ hD.1 hD.2.1 hD.2.2

theorem wf_u32 {n : Int} (h : (Lit.int .u32 n).wf = true) : 0 ≤ n ∧ n < 4294967296 := by
  simp [Lit.wf, IntKind.min, IntKind.max, IntKind.bits, IntKind.signed] at h
  omega
theorem wf_u16 {n : Int} (h : (Lit.int .u16 n).wf = true) : 0 ≤ n ∧ n < 65536 := by
  simp [Lit.wf, IntKind.min, IntKind.max, IntKind.bits, IntKind.signed] at h
  omega
theorem wf_i32 {n : Int} (h : (Lit.int .i32 n).wf = true) : -2147483648 ≤ n ∧ n < 2147483648 := by
  simp [Lit.wf, IntKind.min, IntKind.max, IntKind.bits, IntKind.signed] at h
  omega

/-- The same form, as the program compares. -/
theorem form_same (a b c : Int) : ((a == a) && ((b == b) && (c == c))) = true := by simp

theorem ComposeGroup (m i j k : Int) (w1 : (Lit.int .u32 m).wf = true) (w2 : (Lit.int .u16 i).wf = true) (w3 : (Lit.int .u16 j).wf = true) (w4 : (Lit.int .u16 k).wf = true) : ∃ N, parquetlaw10_ComposeGroup.f N m i j k = some true := by
  refine ⟨8589934700, ?_⟩
  have hN : 8589934600 < 8589934700 := by decide
  have hw := wakes_true
  generalize 8589934700 = N at *
  obtain ⟨m0, m1⟩ := wf_u32 w1
  obtain ⟨i0, i1⟩ := wf_u16 w2
  obtain ⟨j0, j1⟩ := wf_u16 w3
  obtain ⟨k0, k1⟩ := wf_u16 w4
  obtain ⟨fa, fb, fc, ef, vf⟩ := within_told (N := N) (by omega) m0 m1 i0 i1
  obtain ⟨ga, gb, gc, eg, vg⟩ := within_told (N := N) (by omega) m0 m1 j0 j1
  obtain ⟨ha, hb, hc, eh, vh⟩ := within_told (N := N) (by omega) m0 m1 k0 k1
  have hd := vf.dn
  obtain ⟨hdn, hd1⟩ := vf.d
  have d4 := vf.d4
  generalize D m = d at *
  obtain ⟨ob, oc, eo, ro⟩ := one_told N hdn hd1 d4
  have vo := ro.red.val hdn hd1
  obtain ⟨a1, a2, a3, ea, ra⟩ := compose_told hN vf vg
  obtain ⟨b1, b2, b3, eb, rb⟩ := compose_told hN vg vf
  have va := ra.red.val hdn hd1
  obtain ⟨c1, c2, c3, ec, rc⟩ := compose_told hN va vh
  obtain ⟨d1, d2, d3, ed, rd⟩ := compose_told hN vg vh
  obtain ⟨x1, x2, x3, ex, rx⟩ := compose_told hN vf (rd.red.val hdn hd1)
  obtain ⟨r1, r2, r3, er', rr, fr, p, q, r, u, er⟩ := reduced_told hN vf
  obtain ⟨y1, y2, y3, ey, ry⟩ := compose_told hN vf vo
  obtain ⟨z1, z2, z3, ez, rz, cz⟩ := inverse_told hN vf
  obtain ⟨u1, u2, u3, eu, ru⟩ := compose_told hN vf (rz.val hdn hd1)
  obtain ⟨v1, v2, v3, ev, rv⟩ := compose_told hN (rr.red.val hdn hd1) vg
  -- alike
  obtain ⟨q1, q2, q3⟩ := ra.same hd rb (Mod.Hm.comm _ _)
  have cx : Cl d (Pr d (La d a1 a2) (La d ha hb)) (Pr d (La d fa fb) (La d d1 d2)) :=
    (ra.cl.symm.left _).trans hd.m ((Mod.Hm.assoc _ _ _).trans hd.m (Mod.Hm.prod hd.m (Mod.Hm.refl _ _ _) rd.cl))
  obtain ⟨q4, q5, q6⟩ := rc.same hd rx cx
  have cy : Cl d (Pr d (La d fa fb) (La d 1 ob)) (La d fa fb) := (Mod.Hm.prod hd.m (Mod.Hm.refl _ _ _) ro.cl.symm).trans hd.m ((Mod.Hm.comm _ _).trans hd.m (vf.of.one hd))
  obtain ⟨q7, q8, q9⟩ := ry.same hd rr cy
  obtain ⟨q10, q11, q12⟩ := ru.same hd ro cz
  obtain ⟨q13, q14, q15⟩ := rv.same hd ra (rr.cl.symm.left _)
  have red := reduced_model (N := N) va.fine ra.red.inr ra.red.sm
  have c00 : ((0 : Int) != 0) = false := rfl
  have c01 : ((0 : Int) == 0) = true := rfl
  have cd : (d != d) = false := by simp
  unfold parquetlaw10_ComposeGroup.f
  rw [ef]
  simp only [Option.bind_some]
  rw [eg]
  simp only [Option.bind_some]
  rw [eh]
  simp only [Option.bind_some]
  rw [disc_val N vf]
  simp only [Option.bind_some]
  rw [eo]
  simp only [Option.bind_some]
  rw [ea]
  simp only [Option.bind_some]
  rw [eb]
  simp only [Option.bind_some, c00, cond_false]
  rw [← q1, ← q2, ← q3, form_same]
  simp only [Bool.not_true, cond_false]
  rw [red]
  simp only [Option.bind_some, Bool.not_true, cond_false]
  rw [disc_val N va]
  simp only [Option.bind_some, cd, cond_false]
  rw [ec]
  simp only [Option.bind_some]
  rw [ed]
  simp only [Option.bind_some]
  rw [ex]
  simp only [Option.bind_some, c00, cond_false]
  rw [← q4, ← q5, ← q6, form_same]
  simp only [Bool.not_true, cond_false]
  rw [er]
  simp only [Option.bind_some]
  rw [ey]
  simp only [Option.bind_some]
  rw [ez]
  simp only [Option.bind_some]
  rw [eu]
  simp only [Option.bind_some]
  rw [ev]
  simp only [Option.bind_some, c01, cond_true]
  rw [q7, q8, q9, form_same]
  simp only [cond_true]
  rw [q10, q11, q12, form_same]
  simp only [cond_true]
  rw [q13, q14, q15, form_same]
  simp only [cond_true]
  rw [hw]
  rfl

theorem ComposeSums (m i n k : Int) (w1 : (Lit.int .u32 m).wf = true) (w2 : (Lit.int .u16 i).wf = true) (w3 : (Lit.int .i32 n).wf = true) (w4 : (Lit.int .i32 k).wf = true) : ∃ N, parquetlaw10_ComposeSums.f N m i n k = some true := by
  refine ⟨8589934700, ?_⟩
  have hN : 8589934600 < 8589934700 := by decide
  have hw := wakes_true
  generalize 8589934700 = N at *
  obtain ⟨m0, m1⟩ := wf_u32 w1
  obtain ⟨i0, i1⟩ := wf_u16 w2
  obtain ⟨n0, n1⟩ := wf_i32 w3
  obtain ⟨k0, k1⟩ := wf_i32 w4
  obtain ⟨fa, fb, fc, ef, vf⟩ := within_told (N := N) (by omega) m0 m1 i0 i1
  have hd := vf.dn
  obtain ⟨hdn, hd1⟩ := vf.d
  generalize D m = d at *
  obtain ⟨ob, oc, eo, ro⟩ := one_told N hdn hd1 vf.d4
  have ho : Id d Oo := ro.id hd
  obtain ⟨z1, z2, z3, ez, rz, cz⟩ := inverse_told hN vf
  have iX : Id d (La d z1 z2) := rz.of.one hd
  have pw := fun {t : Int} h1 h2 => power_told hN vf cz iX (n := t) h1 h2
  obtain ⟨a1, a2, a3, ea, ra⟩ := pw (t := n) (by omega) (by omega)
  obtain ⟨b1, b2, b3, eb, rb⟩ := pw (t := k) (by omega) (by omega)
  obtain ⟨s1, s2, s3, es, rs⟩ := pw (t := n + k) (by omega) (by omega)
  obtain ⟨y1, y2, y3, ey, ry⟩ := pw (t := -n) (by omega) (by omega)
  obtain ⟨c1, c2, c3, ec, rc⟩ := compose_told hN (ra.red.val hdn hd1) (rb.red.val hdn hd1)
  obtain ⟨v1, v2, v3, ev, rv, cv⟩ := inverse_told hN (ra.red.val hdn hd1)
  have cs : Cl d (Pr d (La d a1 a2) (La d b1 b2)) (zp d (La d fa fb) (La d z1 z2) (n + k)) := (Mod.Hm.prod hd.m ra.cl.symm rb.cl.symm).trans hd.m (zp.add hd ho cz n k)
  obtain ⟨q1, q2, q3⟩ := rc.same hd rs cs
  have czz : Cl d (zp d (La d fa fb) (La d z1 z2) (-n)) (La d v1 v2) := by
    refine inv_unique hd (M := La d a1 a2) ?_ cv (zp.id hd ho _ _ _) (rv.of.one hd)
    have h1 := (ra.cl.symm.left (zp d (La d fa fb) (La d z1 z2) (-n))).trans hd.m (zp.add hd ho cz n (-n))
    have e : n + -n = 0 := by omega
    rw [e] at h1
    exact h1
  obtain ⟨q4, q5, q6⟩ := ry.red.same hd rv (ry.cl.symm.trans hd.m czz)
  have c01 : ((0 : Int) == 0) = true := rfl
  have u1 : wi64 n = n := wi64_id (by omega) (by omega)
  have u2 : wi64 k = k := wi64_id (by omega) (by omega)
  have u3 : wi64 (n + k) = n + k := wi64_id (by omega) (by omega)
  have u4 : wi64 (0 - n) = -n := by rw [wi64_id (by omega) (by omega)]; omega
  unfold parquetlaw10_ComposeSums.f
  rw [ef, u1, u2, u3, u4]
  simp only [Option.bind_some]
  rw [ea]
  simp only [Option.bind_some]
  rw [eb]
  simp only [Option.bind_some]
  rw [ec]
  simp only [Option.bind_some]
  rw [es]
  simp only [Option.bind_some]
  rw [ev]
  simp only [Option.bind_some]
  rw [ey]
  simp only [Option.bind_some, c01, cond_true]
  rw [q1, q2, q3, form_same]
  simp only [cond_true]
  rw [q4, q5, q6, form_same]
  simp only [cond_true]
  rw [hw]
  rfl

end Go.Proofs.Ytbnoablfajmaeaa.Pure
