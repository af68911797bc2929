-- Plain laws of the row law02: ZintBack.
import Derived.Test.YtndhfopllmbjhaaPq
namespace Go.Proofs.Ytndhfopllmbjhaa.Pure
open Go Go.Proofs.Ytndhfopllmbjhaa.Ev
set_option linter.unusedVariables false
set_option linter.unusedSimpArgs false

theorem gcdI_mul (x y z : Int) : gcdI (x * z) (y * z) = gcdI x y * ab z := by
  unfold gcdI
  rw [Int.gcd_mul_right]
  have : ((z.natAbs : Nat) : Int) = ab z := by
    rcases ab_cases z with ⟨c1, c2⟩ | ⟨c1, c2⟩ <;> rw [c2] <;> omega
  rw [← this]
  simp

theorem sn_nneg (x : Int) : decide (sn x ≥ 0) = decide (0 ≤ x) := by
  rcases sn_cases x with ⟨s1, s2⟩ | ⟨s1, s2⟩ | ⟨s1, s2⟩ <;> rw [s2]
  · rw [decide_eq_true (show 0 ≤ x by omega)]; rfl
  · rw [decide_eq_false (show ¬ 0 ≤ x by omega)]; rfl
  · rw [decide_eq_true (show 0 ≤ x by omega)]; rfl

theorem ZintBack (b1 : Bool) (l1 : List Int) (b2 : Bool) (l2 : List Int) (b3 : Bool) (l3 : List Int) (w1 : ∀ x ∈ l1, (Lit.int .u16 x).wf = true) (w2 : ∀ x ∈ l2, (Lit.int .u16 x).wf = true) (w3 : ∀ x ∈ l3, (Lit.int .u16 x).wf = true) : ∃ N, parquetlaw02_ZintBack.f N b1 l1 b2 l2 b3 l3 = some true := by
  refine ⟨8589934700, ?_⟩
  have hN : 1000000001 < 8589934700 := by decide
  have hw := works2
  generalize 8589934700 = N at *
  have d1 : Dig (65536 : Int) l1 := fun x hx => wf_u16 (w1 x hx)
  have d2 : Dig (65536 : Int) l2 := fun x hx => wf_u16 (w2 x hx)
  have d3 : Dig (65536 : Int) l3 := fun x hx => wf_u16 (w3 x hx)
  obtain ⟨x, y, z, lx, ly, lz, h⟩ := three_model hN (k := 60) (by omega) b1 b2 b3 d1 d2 d3
  have zx := zr_zl lx (by omega)
  have zy := zr_zl ly (by omega)
  have zz := zr_zl lz (by omega)
  obtain ⟨r1, r2⟩ := gcd_room lx (by omega)
  obtain ⟨r3, r4⟩ := gcd_room ly (by omega)
  obtain ⟨g, u, v, h1, h2, h3⟩ := z_gcd hN r1 r4
  have g0 := gcdI_nonneg x y
  rw [← h1.eg] at g0
  have gz : Zr g := by
    have := gcdI_rg zx zy
    rw [gcdI_ab, ← h1.eg] at this
    exact zr_of (by rw [ab_of this.lo]; exact this.hi)
  have ag : ab g = g := ab_of g0
  -- sizes
  have x0 := ab_nonneg x
  have y0 := ab_nonneg y
  have lu : Zl 61 u := by
    by_cases hy : y = 0
    · obtain ⟨k1, k2⟩ := h1.bz hy
      rw [k1]
      refine Zl.of ?_
      have : ab (sn x) ≤ 1 := by
        rcases sn_cases x with ⟨s1, s2⟩ | ⟨s1, s2⟩ | ⟨s1, s2⟩ <;> rw [s2] <;> decide
      have h5 := hpow_mono (show 1 ≤ 61 by omega)
      have e1 : (65536 : Int) ^ 1 = 65536 := by decide
      omega
    · obtain ⟨k1, k2⟩ := h1.lo hy
      refine (ly.mono (show 60 ≤ 61 by omega)).le ?_
      have := Int.ediv_le_self g y0
      rw [ab_of k1]; omega
  have lv : Zl 61 v := Zl.of (by
    have h4 := lx.lt
    have h5 : (65536 : Int) ^ 61 = 65536 ^ 60 * 65536 := Int.pow_succ ..
    have h6 : (1 : Int) ≤ 65536 ^ 60 := Int.pow_pos (by decide)
    omega)
  have zu := zr_zl lu (by omega)
  have zv := zr_zl lv (by omega)
  have lxu := lx.mul lu
  have lyv := ly.mul lv
  have zxu := zr_zl lxu (by omega)
  have zyv := zr_zl lyv (by omega)
  have lxz := lx.mul lz
  have lyz := ly.mul lz
  have zxz := zr_zl lxz (by omega)
  have zyz := zr_zl lyz (by omega)
  obtain ⟨r5, r6⟩ := gcd_room lxz (by omega)
  obtain ⟨r7, r8⟩ := gcd_room lyz (by omega)
  obtain ⟨g2, u2, v2, h4, h5, h6⟩ := z_gcd hN r5 r8
  have eg2 : g2 = g * ab z := by rw [h4.eg, gcdI_mul, ← h1.eg]
  have g20 : 0 ≤ g2 := by rw [eg2]; exact Int.mul_nonneg g0 (ab_nonneg z)
  have zg2 : Zr g2 := by
    have := gcdI_rg zxz zyz
    rw [gcdI_ab, ← h4.eg] at this
    exact zr_of (by rw [ab_of this.lo]; exact this.hi)
  have ag2 : ab g2 = g2 := ab_of g20
  have sf : ∀ a : Int, sv false a = a := fun a => rfl
  unfold parquetlaw02_ZintBack.f
  have e60 : ((60 : Nat) : Int) = 60 := rfl
  rw [e60] at h
  rw [h]
  simp only [Option.bind_some, Bool.not_true, cond_false]
  rw [h3]
  simp only [Option.bind_some]
  rw [z_make' false gz, ag, sf]
  simp only [Option.bind_some]
  rw [z_mul hN zx zu, zo_id zxu]
  simp only [Option.bind_some]
  rw [z_mul hN zy zv, zo_id zyv]
  simp only [Option.bind_some]
  rw [z_add hN zxu zyv, h1.sum, zo_id gz, ze_id gz]
  have c0 : ((0 : Int) != 0) = false := rfl
  have c0' : ((0 : Int) == 0) = true := rfl
  have cs : ∀ a : Int, (cmp a a != 0) = false := fun a => by rw [cmp_self]; rfl
  simp only [Option.bind_some, c0, cond_false]
  rw [z_cmp hN gz gz]
  simp only [Option.bind_some, cs, cond_false]
  rw [z_mul hN zx zz, zo_id zxz]
  simp only [Option.bind_some]
  rw [z_mul hN zy zz, zo_id zyz]
  simp only [Option.bind_some]
  rw [h6]
  have ha : ∀ a : Int, zint_Int_Abs.f N (sg a) (pB a) = some (pB a) := fun a => rfl
  simp only [Option.bind_some]
  rw [ha]
  simp only [Option.bind_some]
  rw [z_make' false zz, sf]
  simp only [Option.bind_some]
  rw [z_mul hN gz (zr_ab zz), ← eg2, zo_id zg2]
  simp only [Option.bind_some]
  rw [z_make' false zg2, ag2, sf]
  simp only [Option.bind_some]
  rw [z_cmp hN zg2 zg2]
  simp only [Option.bind_some, cs, cond_false]
  rw [z_sign zy]
  simp only [Option.bind_some]
  by_cases hy : y = 0
  · subst hy
    have c1 : (sn 0 == 0) = true := rfl
    rw [c1]
    simp only [cond_true]
    rw [hw]
    rfl
  · have c1 : (sn y == 0) = false := by
      rcases sn_cases y with ⟨s1, s2⟩ | ⟨s1, s2⟩ | ⟨s1, s2⟩ <;> rw [s2]
      · exact absurd s1 hy
      · rfl
      · rfl
    rw [c1]
    simp only [cond_false]
    obtain ⟨q1, q2, q3⟩ := z_quo hN zx zy hy
    rw [q1]
    simp only [Option.bind_some]
    have gp := gcdI_pos (a := x) hy
    rw [← h1.eg] at gp
    have m0 := Int.emod_nonneg x hy
    have m1 : x % y < ab y := by
      have := Int.emod_lt_of_pos x (show 0 < ab y by have : ab y ≠ 0 := fun q => hy (ab_zero.mp q); omega)
      rcases ab_cases y with ⟨c2, c3⟩ | ⟨c2, c3⟩
      · rw [c3] at this ⊢; exact this
      · rw [c3] at this ⊢; rw [Int.emod_neg] at this; exact this
    have dd := Int.mul_ediv_add_emod x y
    have e1 : x / y * y = x - x % y := by rw [Int.mul_comm]; omega
    have zc : Zr (x / y * y) := by
      refine zr_zl (k := 61) ?_ (by omega)
      rw [e1]
      exact lx.sub (ly.le (by rw [ab_of m0]; omega))
    rw [z_mul hN q2 zy, zo_id zc]
    simp only [Option.bind_some]
    have e2 : x / y * y + x % y = x := by omega
    rw [z_add hN zc q3, e2, zo_id zx, ze_id zx]
    simp only [Option.bind_some]
    rw [ha]
    simp only [Option.bind_some]
    rw [z_make' false zy, sf]
    simp only [Option.bind_some]
    have k1 : x % g = 0 := Int.emod_eq_zero_of_dvd (by rw [h1.eg]; exact gcdI_left x y)
    have k2 : ab y % g = 0 := Int.emod_eq_zero_of_dvd (by rw [h1.eg]; exact ab_dvd (gcdI_right x y))
    rw [z_exact hN (zr_ab zy) gz (by omega), if_pos k2]
    simp only [Option.bind_some]
    rw [z_exact hN zx gz (by omega), if_pos k1]
    simp only [Option.bind_some, c0', cond_true]
    rw [z_cmp hN zx zx]
    simp only [Option.bind_some, cmp_same, cond_true]
    rw [z_sign q3]
    simp only [Option.bind_some]
    rw [sn_nneg, decide_eq_true m0]
    simp only [cond_true]
    rw [z_cmp hN q3 (zr_ab zy)]
    simp only [Option.bind_some]
    rw [cmp_neg, decide_eq_true m1]
    simp only [cond_true]
    rw [z_sign zu]
    obtain ⟨t1, t2⟩ := h1.lo hy
    simp only [Option.bind_some]
    rw [sn_nneg, decide_eq_true t1]
    simp only [cond_true]
    have zq : Zr (ab y / g) := zr_of (by
      have := (div_le (a := y) gp).2
      have := zy.hi
      omega)
    rw [z_cmp hN zu zq]
    simp only [Option.bind_some]
    rw [cmp_neg, decide_eq_true t2]
    simp only [cond_true]
    rw [hw]
    rfl

end Go.Proofs.Ytndhfopllmbjhaa.Pure
