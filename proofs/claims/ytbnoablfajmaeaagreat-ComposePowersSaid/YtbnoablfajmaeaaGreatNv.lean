-- Plain laws of the row law02: whole numbers: their parts; sums and products; texts.
import Derived.Test.YtbnoablfajmaeaaGreatNr
import Derived.KernelRfl
namespace Go.Proofs.YtbnoablfajmaeaaGreat.NatL
open Go Go.Proofs.YtbnoablfajmaeaaGreat.Ev
set_option linter.unusedVariables false
set_option linter.unusedSimpArgs false

theorem rmake_model {N : Nat} (hN : 1000000001 < N) {v : Int} (b : Bool) (h0 : 0 ≤ v) (hl : (enc (65536 : Int) v).length ≤ 1000000) : parquetref02_Make.f N b (enc (65536 : Int) v) = some (b && decide (0 < v), enc (65536 : Int) v) := by
  unfold parquetref02_Make.f
  rw [rbits_enc hN h0 (by omega)]
  simp only [Option.bind_some]
  have := blen_nonneg v
  have hz := blen_le h0 0
  have e0 : (2 : Int) ^ 0 = 1 := rfl
  rw [e0] at hz
  by_cases hv : v = 0
  · subst hv
    have : blen 0 = 0 := by decide +kernel
    rw [this, enc_zero H2]
    simp
  · have hb : ¬ blen v = 0 := fun q => by have := hz.mp (by omega); omega
    have c : (blen v == 0) = false := by simpa using hb
    have d : decide (0 < v) = true := decide_eq_true (by omega)
    rw [c, d]; simp

theorem rsign_model {N : Nat} (hN : 1000000001 < N) {v : Int} (b : Bool) (h0 : 0 ≤ v) (hl : (enc (65536 : Int) v).length ≤ 1000000) : parquetref02_Sign.f N b (enc (65536 : Int) v) = some (if v = 0 then 0 else if b then -1 else 1) := by
  unfold parquetref02_Sign.f
  rw [rbits_enc hN h0 (by omega)]
  simp only [Option.bind_some]
  have := blen_nonneg v
  have hz := blen_le h0 0
  have e0 : (2 : Int) ^ 0 = 1 := rfl
  rw [e0] at hz
  by_cases hv : v = 0
  · subst hv
    have : blen 0 = 0 := by decide +kernel
    rw [this]; rfl
  · have hb : ¬ blen v = 0 := fun q => by have := hz.mp (by omega); omega
    have c : (blen v == 0) = false := by simpa using hb
    rw [c, if_neg hv]
    cases b <;> rfl


/-- A number of at most so many digits. -/
def Zl (k : Nat) (x : Int) : Prop := (pH x).length ≤ k
theorem Zl.mono {j k : Nat} {x : Int} (h : Zl j x) (hk : j ≤ k) : Zl k x := Nat.le_trans h hk
theorem Zl.len {k : Nat} {x : Int} (h : Zl k x) (j : Nat) (hk : k ≤ j) : (enc (65536 : Int) (ab x)).length ≤ j := Nat.le_trans h hk
theorem Zl.le {k : Nat} {x y : Int} (h : Zl k y) (hxy : ab x ≤ ab y) : Zl k x := Nat.le_trans (encH_mono (ab_nonneg x) hxy) h
theorem Zl.neg {k : Nat} {x : Int} (h : Zl k x) : Zl k (-x) := h.le (by rw [ab_neg]; exact Int.le_refl _)
theorem Zl.ab {k : Nat} {x : Int} (h : Zl k x) : Zl k (ab x) := h.le (by rw [ab_ab]; exact Int.le_refl _)
theorem zl_of {x : Int} (h : Zr x) : Zl 256 x := encH_len h.lo (by rw [← K_H]; exact h.hi)
theorem encH_lt {v : Int} (h : 0 ≤ v) : v < (65536 : Int) ^ (enc (65536 : Int) v).length := by
  obtain ⟨h1, h2⟩ := enc_spec H2 h
  have := (nv_bound (show (0 : Int) < 65536 by decide) h1.dig).2
  rw [h2] at this
  exact this
theorem Zl.lt {k : Nat} {x : Int} (h : Zl k x) : NatL.ab x < (65536 : Int) ^ k := by
  have h1 := encH_lt (ab_nonneg x)
  have h2 := hpow_mono h
  unfold pH at h2
  omega
theorem Zl.of {k : Nat} {x : Int} (h : NatL.ab x < (65536 : Int) ^ k) : Zl k x := encH_len (ab_nonneg x) h
theorem Zl.add {k : Nat} {x y : Int} (h : Zl k x) (g : Zl k y) : Zl (k + 1) (x + y) := Zl.of (by
  have := h.lt; have := g.lt; have := ab_add_le x y; have := ab_nonneg x
  rw [Int.pow_succ]; omega)
theorem Zl.sub {k : Nat} {x y : Int} (h : Zl k x) (g : Zl k y) : Zl (k + 1) (x - y) := by rw [Int.sub_eq_add_neg]; exact h.add g.neg
theorem Zl.mul {j k : Nat} {x y : Int} (h : Zl j x) (g : Zl k y) : Zl (j + k) (x * y) := by
  unfold Zl pH
  rw [ab_mul]
  have := encH_len_mul (ab_nonneg x) (ab_nonneg y)
  unfold Zl pH at h g
  omega

theorem r_make {N : Nat} (hN : 1000000001 < N) {v : Int} (b : Bool) (h0 : 0 ≤ v) (hl : (enc (65536 : Int) v).length ≤ 1000000) : parquetref02_Make.f N b (enc (65536 : Int) v) = some (sg (sv b v), pH (sv b v)) := by
  rw [rmake_model hN b h0 hl, sg_sv b h0]; unfold pH; rw [ab_sv b h0]
theorem r_make' {N : Nat} (hN : 1000000001 < N) {k : Nat} {x : Int} (b : Bool) (h : Zl k x) (hk : k ≤ 1000000) : parquetref02_Make.f N b (pH x) = some (sg (sv b (ab x)), pH (sv b (ab x))) := r_make hN b (ab_nonneg x) (h.len _ hk)
theorem r_sign {N : Nat} (hN : 1000000001 < N) {k : Nat} {x : Int} (h : Zl k x) (hk : k ≤ 1000000) : parquetref02_Sign.f N (sg x) (pH x) = some (sn x) := by
  unfold pH
  rw [rsign_model hN _ (ab_nonneg x) (h.len _ hk)]
  rfl
theorem r_zero {N : Nat} (hN : 1000000001 < N) {k : Nat} {x : Int} (h : Zl k x) (hk : k ≤ 1000000) : parquetref02_Zero.f N (sg x) (pH x) = some (decide (x = 0)) := by
  unfold parquetref02_Zero.f
  rw [r_sign hN h hk]
  simp only [Option.bind_some]
  rcases sn_cases x with ⟨s1, s2⟩ | ⟨s1, s2⟩ | ⟨s1, s2⟩ <;> rw [s2]
  · rw [decide_eq_true s1]; rfl
  · rw [decide_eq_false (by omega)]; rfl
  · rw [decide_eq_false (by omega)]; rfl

theorem r_add {N : Nat} (hN : 1000000001 < N) {k : Nat} {x y : Int} (hx : Zl k x) (hy : Zl k y) (hk : k ≤ 100000) : parquetref02_Add.f N (sg x) (pH x) (sg y) (pH y) = some (sg (x + y), pH (x + y)) := by
  have hx' := hx.len 100000 hk
  have hy' := hy.len 100000 hk
  have x0 := ab_nonneg x
  have y0 := ab_nonneg y
  unfold parquetref02_Add.f
  by_cases h : sg x = sg y
  · have c : (sg x == sg y) = true := by rw [h]; exact beq_self_eq_true _
    rw [c]
    simp only [cond_true]
    have e : ab (x + y) = ab x + ab y ∧ sv (sg x) (ab x + ab y) = x + y := by
      rcases sg_cases x with ⟨a1, a2, a3⟩ | ⟨a1, a2, a3⟩ <;> rcases sg_cases y with ⟨b1, b2, b3⟩ | ⟨b1, b2, b3⟩ <;> rw [a1, b1] at h
      · rw [a1, a3, b3]; unfold ab sv; rw [if_pos (by omega), if_pos rfl]; omega
      · cases h
      · cases h
      · rw [a1, a3, b3]; unfold ab sv; rw [if_neg (by omega)]; simp
    have hl := (hx.add hy).len 100001 (by omega)
    rw [e.1] at hl
    unfold pH
    rw [radd_enc hN x0 y0 (by omega) (by omega)]
    simp only [Option.bind_some]
    rw [r_make hN _ (by omega) (by omega), e.2]
    rfl
  · have c : (sg x == sg y) = false := beq_eq_false_iff_ne.mpr h
    have e : (ab x < ab y → sv (sg y) (ab y - ab x) = x + y) ∧ (ab y ≤ ab x → sv (sg x) (ab x - ab y) = x + y) := by
      rcases sg_cases x with ⟨a1, a2, a3⟩ | ⟨a1, a2, a3⟩ <;> rcases sg_cases y with ⟨b1, b2, b3⟩ | ⟨b1, b2, b3⟩ <;> rw [a1, b1] at h
      · exact absurd rfl h
      · refine ⟨?_, ?_⟩
        · intro _; rw [b1, a3, b3]; unfold sv; simp; omega
        · intro _; rw [a1, a3, b3]; unfold sv; simp; omega
      · refine ⟨?_, ?_⟩
        · intro _; rw [b1, a3, b3]; unfold sv; simp; omega
        · intro _; rw [a1, a3, b3]; unfold sv; simp
      · exact absurd rfl h
    rw [c]
    simp only [cond_false]
    unfold pH
    rw [rcmp_enc hN x0 y0 (by omega)]
    simp only [Option.bind_some]
    rw [cmp_nneg]
    by_cases hl : ab y ≤ ab x
    · have l1 := encH_mono (u := ab x - ab y) (v := ab x) (by omega) (by omega)
      rw [decide_eq_true hl]
      simp only [cond_true]
      rw [rsub_enc hN y0 hl (by omega)]
      simp only [Option.bind_some]
      rw [r_make hN _ (by omega) (by omega), e.2 hl]
      rfl
    · have l1 := encH_mono (u := ab y - ab x) (v := ab y) (by omega) (by omega)
      rw [decide_eq_false hl]
      simp only [cond_false]
      rw [rsub_enc hN x0 (by omega) (by omega)]
      simp only [Option.bind_some]
      rw [r_make hN _ (by omega) (by omega), e.1 (by omega)]
      rfl

theorem r_neg {N : Nat} (hN : 1000000001 < N) {k : Nat} {x : Int} (h : Zl k x) (hk : k ≤ 1000000) : parquetref02_Neg.f N (sg x) (pH x) = some (sg (-x), pH (-x)) := by
  unfold parquetref02_Neg.f
  rw [r_make' hN _ h hk, sv_nsg]
  rfl
theorem r_sub {N : Nat} (hN : 1000000001 < N) {k : Nat} {x y : Int} (hx : Zl k x) (hy : Zl k y) (hk : k ≤ 100000) : parquetref02_Sub.f N (sg x) (pH x) (sg y) (pH y) = some (sg (x - y), pH (x - y)) := by
  unfold parquetref02_Sub.f
  rw [r_neg hN hy (by omega)]
  simp only [Option.bind_some]
  rw [r_add hN hx hy.neg hk, Int.sub_eq_add_neg]
  rfl
theorem r_mul {N : Nat} (hN : 1000000001 < N) {j k : Nat} {x y : Int} (hx : Zl j x) (hy : Zl k y) (hj : j ≤ 100000) (hk : k ≤ 100000) : parquetref02_Mul.f N (sg x) (pH x) (sg y) (pH y) = some (sg (x * y), pH (x * y)) := by
  have hx' := hx.len 100000 hj
  have hy' := hy.len 100000 hk
  have hl := encH_len_mul (ab_nonneg x) (ab_nonneg y)
  unfold parquetref02_Mul.f
  unfold pH
  rw [rmul_enc hN (ab_nonneg x) (ab_nonneg y) (by omega) (by omega)]
  simp only [Option.bind_some]
  rw [r_make hN _ (Int.mul_nonneg (ab_nonneg x) (ab_nonneg y)) (by omega), sv_mul]
  rfl
theorem r_of {N : Nat} (hN : 1000000001 < N) {n : Int} (h0 : -9223372036854775808 ≤ n) (h1 : n < 9223372036854775808) : parquetref02_Of.f N n = some (sg n, pH n) := by
  have hl := (zl_of (zr_i64 h0 h1)).len 256 (by omega)
  unfold parquetref02_Of.f
  rcases sg_cases n with ⟨a1, a2, a3⟩ | ⟨a1, a2, a3⟩
  · have e : wu64 (0 - wu64 n) = ab n := by rw [wu64_mod, wu64_mod]; omega
    have e2 : sv true (ab n) = n := by rw [a3]; unfold sv; simp
    rw [decide_eq_true a2, e]
    simp only [cond_true]
    rw [rof_model hN (by omega) (by omega)]
    simp only [Option.bind_some]
    rw [r_make hN _ (ab_nonneg n) (by omega), e2]
    rfl
  · have d : decide (n < 0) = false := decide_eq_false (by omega)
    have e : wu64 n = ab n := by rw [wu64_id (by omega) (by omega), a3]
    have e2 : sv false (ab n) = n := by rw [a3]; unfold sv; simp
    rw [d, e]
    simp only [cond_false]
    rw [rof_model hN (by omega) (by omega)]
    simp only [Option.bind_some]
    rw [r_make hN _ (ab_nonneg n) (by omega), e2]
    rfl

theorem r_cmp {N : Nat} (hN : 1000000001 < N) {k : Nat} {x y : Int} (hx : Zl k x) (hy : Zl k y) (hk : k ≤ 100000) : parquetref02_Cmp.f N (sg x) (pH x) (sg y) (pH y) = some (cmp x y) := by
  have hx' := hx.len 100000 hk
  have hy' := hy.len 100000 hk
  unfold parquetref02_Cmp.f
  rw [r_sign hN hx (by omega), r_sign hN hy (by omega)]
  simp only [Option.bind_some]
  have rc : ∀ u v : Int, (enc (65536 : Int) (ab u)).length ≤ 100000 → parquetref01_Cmp.f N (pH u) (pH v) = some (cmp (ab u) (ab v)) := fun u v h => rcmp_enc hN (ab_nonneg u) (ab_nonneg v) (by omega)
  rcases sn_cases x with ⟨s1, s2⟩ | ⟨s1, s2⟩ | ⟨s1, s2⟩ <;> rcases sn_cases y with ⟨t1, t2⟩ | ⟨t1, t2⟩ | ⟨t1, t2⟩ <;> rw [s2, t2]
  · rw [rc x y hx', s1, t1]; rfl
  · unfold cmp; rw [if_neg (by omega), if_neg (by omega)]; rfl
  · unfold cmp; rw [if_neg (by omega), if_pos (by omega)]; rfl
  · unfold cmp; rw [if_neg (by omega), if_pos (by omega)]; rfl
  · have d1 : decide ((-1 : Int) < -1) = false := rfl
    have d3 : decide ((-1 : Int) < 0) = true := rfl
    rw [d1, d3]
    simp only [cond_false, cond_true]
    rw [rc y x hy']
    have a3 : ab x = -x := by unfold ab; rw [if_pos s1]
    have b3 : ab y = -y := by unfold ab; rw [if_pos t1]
    rw [a3, b3]
    simp only [Option.bind_some]
    unfold cmp
    by_cases h : x = y
    · rw [if_pos h, if_pos (by omega)]
    · rw [if_neg h, if_neg (by omega)]
      by_cases h1 : x < y
      · rw [if_pos h1, if_pos (by omega)]
      · rw [if_neg h1, if_neg (by omega)]
  · unfold cmp; rw [if_neg (by omega), if_pos (by omega)]; rfl
  · unfold cmp; rw [if_neg (by omega), if_neg (by omega)]; rfl
  · unfold cmp; rw [if_neg (by omega), if_neg (by omega)]; rfl
  · rw [rc x y hx', ab_of (by omega), ab_of (by omega)]; rfl

theorem r_quo {N : Nat} (hN : 1000000001 < N) {k : Nat} {x y : Int} (hx : Zl k x) (hy : Zl k y) (hk1 : 1 ≤ k) (hk : k ≤ 100000) (h : y ≠ 0) : parquetref02_Quo.f N (sg x) (pH x) (sg y) (pH y) = some (sg (x / y), pH (x / y), sg (x % y), pH (x % y)) ∧ Zl (k + 1) (x / y) ∧ Zl k (x % y) := by
  obtain ⟨t1, t2⟩ := quo_told (x := x) h
  have hx' := hx.len 100000 hk
  have hy' := hy.len 100000 hk
  have x0 := ab_nonneg x
  have y0 := ab_nonneg y
  have hyz : ab y ≠ 0 := fun q => h (ab_zero.mp q)
  have yp : 0 < ab y := by omega
  have q0 : 0 ≤ ab x / ab y := Int.ediv_nonneg x0 y0
  have q1 : ab x / ab y ≤ ab x := Int.ediv_le_self _ x0
  have r0 := Int.emod_nonneg (ab x) hyz
  have r1 := Int.emod_lt_of_pos (ab x) yp
  have lq := encH_mono q0 q1
  have lr := encH_mono r0 (Int.le_of_lt r1)
  have zq : ∀ b, Zl k (sv b (ab x / ab y)) := fun b => hx.le (by rw [ab_sv b q0]; exact q1)
  have zr : ∀ b, Zl k (sv b (ab x % ab y)) := fun b => hy.le (by rw [ab_sv b r0]; omega)
  unfold parquetref02_Quo.f
  unfold pH
  rw [rdiv_enc hN x0 yp (by omega) (by omega)]
  simp only [Option.bind_some]
  rw [r_make hN _ q0 (by omega)]
  simp only [Option.bind_some]
  rw [r_make hN _ r0 (by omega)]
  simp only [Option.bind_some]
  rw [r_sign hN (zr _) (by omega)]
  simp only [Option.bind_some]
  rw [sn_neg]
  have z1 : Zl k 1 := Zl.of (by
    have e : ab 1 = 1 := rfl
    rw [e]
    have := hpow_mono hk1
    simp at this
    omega)
  have za : Zl k (ab y) := hy.ab
  by_cases hc : sg x = true ∧ 0 < ab x % ab y
  · obtain ⟨u1, u2⟩ := t1 hc
    have c1 : decide (sv (sg x) (ab x % ab y) < 0) = true := by
      rw [hc.1]; unfold sv; rw [if_pos rfl]; exact decide_eq_true (by omega)
    rw [c1]
    simp only [cond_true]
    have fold : ∀ z : Int, enc (65536 : Int) (ab z) = pH z := fun z => rfl
    simp only [fold]
    rw [r_make' hN false hy (by omega)]
    have e0 : sv false (ab y) = ab y := rfl
    rw [e0]
    simp only [Option.bind_some]
    rw [r_add hN (zr _) za hk]
    simp only [Option.bind_some]
    have e1 : sv (sg x) (ab x % ab y) + ab y = x % y := by rw [← u2, hc.1]; unfold sv; rw [if_pos rfl]; omega
    rw [e1, r_of hN (by decide) (by decide)]
    simp only [Option.bind_some]
    have l2 : Zl k (x % y) := hy.le (by rw [← u2, ab_of (by omega)]; omega)
    by_cases hs : sg y = true
    · have e2 : sv (!(sg x == sg y)) (ab x / ab y) + 1 = x / y := by
        rw [← u1, hc.1, hs]; unfold sv; simp
      refine ⟨?_, ?_, l2⟩
      · rw [hs] at e2 ⊢
        simp only [cond_true]
        rw [r_add hN (zq _) z1 hk]
        simp only [Option.bind_some]
        rw [e2]
      · rw [← e2]; exact (zq _).add z1
    · have hs' : sg y = false := by cases hq : sg y <;> simp_all
      have e2 : sv (!(sg x == sg y)) (ab x / ab y) - 1 = x / y := by
        rw [← u1, hc.1, hs']; unfold sv; simp; omega
      refine ⟨?_, ?_, l2⟩
      · rw [hs'] at e2 ⊢
        simp only [cond_false]
        rw [r_sub hN (zq _) z1 hk]
        simp only [Option.bind_some]
        rw [e2]
      · rw [← e2]; exact (zq _).sub z1
  · obtain ⟨u1, u2⟩ := t2 hc
    have e1 : sv (sg x) (ab x % ab y) = x % y := by
      rw [← u2]
      by_cases hs : sg x = true
      · have hrz : ab x % ab y = 0 := by
          rcases Int.lt_or_le 0 (ab x % ab y) with h3 | h3
          · exact absurd ⟨hs, h3⟩ hc
          · omega
        rw [hrz, sv_zero]
      · have hs' : sg x = false := by cases hq : sg x <;> simp_all
        rw [hs']; rfl
    have c1 : decide (x % y < 0) = false := decide_eq_false (by rw [← u2]; omega)
    rw [e1, c1, u1]
    have l1 := zq (!(sg x == sg y))
    have l2 := zr (sg x)
    rw [u1] at l1
    rw [e1] at l2
    exact ⟨rfl, l1.mono (by omega), l2⟩


theorem r_int64 {N : Nat} (hN : 1000000001 < N) {k : Nat} {x : Int} (h : Zl k x) (hk : k ≤ 1000000) : parquetref02_Int64.f N (sg x) (pH x) = some (if -9223372036854775808 ≤ x ∧ x < 9223372036854775808 then (x, true) else (0, false)) := by
  have hs := r_sign hN h hk
  unfold parquetref02_Int64.f
  have hsm := rsmall_enc hN (ab_nonneg x)
  have e0 : enc (65536 : Int) (ab x) = pH x := rfl
  rw [e0] at hsm
  rw [hsm]
  simp only [Option.bind_some]
  have x0 := ab_nonneg x
  by_cases h : ab x < 18446744073709551616
  · rw [if_pos h]
    simp only [Bool.not_true, cond_false]
    by_cases h1 : ab x > 9223372036854775808
    · rw [decide_eq_true h1, if_neg (by rcases ab_cases x with ⟨c1, c2⟩ | ⟨c1, c2⟩ <;> omega)]; rfl
    · rw [decide_eq_false h1, hs]
      simp only [cond_false, Option.bind_some]
      rw [sn_neg]
      rcases sg_cases x with ⟨a1, a2, a3⟩ | ⟨a1, a2, a3⟩
      · have e : wi64 (wu64 (0 - ab x)) = x := by
          rw [wu64_mod]
          have : (0 - ab x) % 18446744073709551616 = x + 18446744073709551616 := by omega
          rw [this, wi64_top (by omega) (by omega)]; omega
        rw [a1, e, if_pos (by omega), decide_eq_true a2]
        by_cases h2 : ab x = 9223372036854775808
        · have c2 : (ab x == 9223372036854775808) = true := by rw [h2]; rfl
          rw [c2]; rfl
        · have c2 : (ab x == 9223372036854775808) = false := beq_eq_false_iff_ne.mpr h2
          rw [c2]; rfl
      · have d : decide (x < 0) = false := decide_eq_false (by omega)
        rw [a1, d]
        by_cases h2 : ab x = 9223372036854775808
        · have c2 : (ab x == 9223372036854775808) = true := by rw [h2]; rfl
          rw [c2, if_neg (by omega)]; rfl
        · have c2 : (ab x == 9223372036854775808) = false := beq_eq_false_iff_ne.mpr h2
          rw [c2, if_pos (by omega), a3, wi64_id (n := x) (by omega) (by omega)]; rfl
  · rw [if_neg h, if_neg (by rcases ab_cases x with ⟨c1, c2⟩ | ⟨c1, c2⟩ <;> omega)]
    rfl


end Go.Proofs.YtbnoablfajmaeaaGreat.NatL
