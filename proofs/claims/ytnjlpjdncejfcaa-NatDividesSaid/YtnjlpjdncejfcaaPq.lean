-- Plain laws of the row law01: NatDivides.
import Derived.Test.YtnjlpjdncejfcaaPp
import Derived.Test.YtnjlpjdncejfcaaT5
namespace Go.Proofs.Ytnjlpjdncejfcaa.Pure
open Go Go.Proofs.Ytnjlpjdncejfcaa.Ev
set_option linter.unusedVariables false
set_option linter.unusedSimpArgs false

theorem bits_enc (N : Nat) {v : Int} (h : Rg v) : nat_Nat_Bits.f N (enc (4294967296 : Int) v) = some (blen v) := by
  obtain ⟨c, e⟩ := enc_spec B2 h.lo
  have l := enc_len128 h.lo h.hi
  have := bits_model N c (by omega)
  rw [e] at this
  exact this
theorem bits_zero (N : Nat) : nat_Nat_Bits.f N (enc (4294967296 : Int) 0) = some 0 := by
  have := bits_enc N (v := 0) ⟨Int.le_refl _, K_pos⟩
  rw [this, (blen_zero_iff (Int.le_refl 0)).mpr rfl]

theorem nd0 {N : Nat} (hN : 1000000001 < N) {x : Int} (rx : Rg x) {n : Int} (hn : n < 9223372036854775808) (w : List Int × List Int × ByteArray × ByteArray × ByteArray) : parquetlaw01_NatDivides.j0 N n (true, enc (4294967296 : Int) x, w) = some true := by
  unfold parquetlaw01_NatDivides.j0
  by_cases h1 : n < 0
  · rw [decide_eq_true h1]; rfl
  · rw [decide_eq_false h1]
    simp only [cond_false]
    by_cases h2 : n > 4000
    · rw [decide_eq_true h2]; rfl
    · rw [decide_eq_false h2]
      simp only [cond_false]
      have hp := p2_pos n.toNat
      have hpK := p2K (n := n.toNat) (by omega)
      have one : Rg 1 := ⟨by decide, by have := K_big; omega⟩
      have rp : Rg (2 ^ n.toNat) := ⟨Int.le_of_lt hp, hpK⟩
      have hm := Int.mul_nonneg rx.lo (Int.le_of_lt hp)
      have c0 : ((0 : Int) == 0) = true := rfl
      have s1 : nat_Shl.f N (enc (4294967296 : Int) x) n = some (enc (4294967296 : Int) (ov (x * 2 ^ n.toNat)), oe (x * 2 ^ n.toNat)) := by
        rw [shl_model hN rx (by omega) (by omega)]
        by_cases hx : x = 0
        · subst hx
          rw [if_pos rfl, Int.zero_mul]
          have : ov 0 = 0 := if_pos K_pos
          have e2 : oe 0 = 0 := if_pos K_pos
          rw [this, e2, enc_zero B2]
        · rw [if_neg hx]
          unfold ov oe
          split
          · rfl
          · rw [enc_zero B2]
      rw [s1, of_model hN (by decide) (by decide)]
      simp only [Option.bind_some]
      rw [shl_model hN one (by omega) (by omega), if_neg (by decide), Int.one_mul, if_pos hpK]
      simp only [Option.bind_some]
      rw [mul' hN rx rp]
      simp only [Option.bind_some]
      rw [shr_model hN rx (by omega) (by omega)]
      simp only [Option.bind_some]
      rw [div_model hN rx rp, if_neg (by omega)]
      simp only [Option.bind_some, c0, cond_true, beq_self_eq_true]
      rw [two_same hN (Rg.ov hm)]
      simp only [Option.bind_some, cond_true]
      have rq : Rg (x / 2 ^ n.toNat) := ⟨Int.ediv_nonneg rx.lo (Int.le_of_lt hp), by have := Int.ediv_le_self (2 ^ n.toNat) rx.lo; have := rx.hi; omega⟩
      rw [cmp' hN rq rq, cmp_self]
      rfl

theorem cmp_pos (u v : Int) : decide (cmp u v > 0) = decide (v < u) := by
  unfold cmp
  by_cases h : u = v
  · rw [if_pos h, decide_eq_false (show ¬ v < u by omega)]; rfl
  · by_cases h1 : u < v
    · rw [if_neg h, if_pos h1, decide_eq_false (show ¬ v < u by omega)]; rfl
    · rw [if_neg h, if_neg h1, decide_eq_true (show v < u by omega)]; rfl

theorem nd1 {N : Nat} (hN : 1000000001 < N) {x : Int} (rx : Rg x) {n : Int} (hn : n < 9223372036854775808) (w : List Int × List Int × ByteArray × ByteArray × ByteArray) : parquetlaw01_NatDivides.j1 N (true, enc (4294967296 : Int) x, w) n = some true := by
  have h0 := nd0 hN rx hn w
  unfold parquetlaw01_NatDivides.j1
  have r := rt_spec rx.lo
  have rr := rt_rg rx
  have one : Rg 1 := ⟨by decide, by have := K_big; omega⟩
  rw [root_model hN rx]
  generalize rt x = v at *
  have v0 := r.lo
  have v1 := r.le
  have v2 := r.lt
  have xK := rx.hi
  have hK := K_big
  have k1 : v * v < K := by omega
  have k2 : v + 1 < K := by
    rcases Int.lt_or_le v 2 with h | h
    · omega
    · have := Int.mul_le_mul_of_nonneg_right h v0; omega
  have e1 : ov (v * v) = v * v := if_pos k1
  have e2 : oe (v * v) = 0 := if_pos k1
  have e3 : ov (v + 1) = v + 1 := if_pos k2
  have e4 : oe (v + 1) = 0 := if_pos k2
  have c0 : ((0 : Int) != 0) = false := rfl
  have c1 : ((3 : Int) == 0) = false := rfl
  have c2 : ((0 : Int) == 0) = true := rfl
  simp only [Option.bind_some]
  rw [mul' hN rr rr, of_model hN (by decide) (by decide)]
  simp only [Option.bind_some]
  rw [add' hN rr one]
  simp only [Option.bind_some]
  rw [e1, e2, e3, e4, c0]
  simp only [cond_false]
  rw [cmp' hN ⟨Int.mul_nonneg v0 v0, k1⟩ rx]
  simp only [Option.bind_some]
  rw [cmp_pos, decide_eq_false (show ¬ x < v * v by omega)]
  simp only [cond_false]
  have rv : Rg (v + 1) := ⟨by omega, k2⟩
  rw [mul' hN rv rv]
  simp only [Option.bind_some]
  have m0 := Int.mul_nonneg rv.lo rv.lo
  by_cases hk : (v + 1) * (v + 1) < K
  · have e5 : ov ((v + 1) * (v + 1)) = (v + 1) * (v + 1) := if_pos hk
    have e6 : oe ((v + 1) * (v + 1)) = 0 := if_pos hk
    rw [e5, e6, c2]
    simp only [cond_true]
    rw [cmp' hN ⟨m0, hk⟩ rx]
    simp only [Option.bind_some]
    have c3 : decide (cmp ((v + 1) * (v + 1)) x ≤ 0) = false := by
      unfold cmp
      rw [if_neg (by omega), if_neg (by omega)]; rfl
    rw [c3]
    exact h0
  · have e6 : oe ((v + 1) * (v + 1)) = 3 := if_neg hk
    rw [e6, c1]
    exact h0

theorem gcdI_le_left {x y : Int} (hx : 0 < x) : gcdI x y ≤ x := Int.le_of_dvd hx (Int.gcd_dvd_left x y)

theorem nd2 {N : Nat} (hN : 1000000001 < N) {x y z : Int} (rx : Rg x) (ry : Rg y) (rz : Rg z) {n : Int} (hn : n < 9223372036854775808) (w : ByteArray × ByteArray × ByteArray) : parquetlaw01_NatDivides.j2 N (true, enc (4294967296 : Int) x, enc (4294967296 : Int) y, enc (4294967296 : Int) z, w) (enc (4294967296 : Int) (gcdI x y)) n = some true := by
  have h1 := nd1 hN rx hn (enc (4294967296 : Int) y, enc (4294967296 : Int) z, w)
  unfold parquetlaw01_NatDivides.j2
  have c0 : ((0 : Int) != 0) = false := rfl
  have c1 : ((3 : Int) == 0) = false := rfl
  have c2 : ((0 : Int) == 0) = true := rfl
  have m1 := Int.mul_nonneg rx.lo rz.lo
  have m2 := Int.mul_nonneg ry.lo rz.lo
  simp only
  rw [mul' hN rx rz]
  simp only [Option.bind_some]
  by_cases hk : x * z < K
  · have e1 : ov (x * z) = x * z := if_pos hk
    have e2 : oe (x * z) = 0 := if_pos hk
    rw [e1, e2, c2]
    simp only [cond_true]
    rw [mul' hN ry rz]
    simp only [Option.bind_some]
    by_cases hk2 : y * z < K
    · have e3 : ov (y * z) = y * z := if_pos hk2
      have e4 : oe (y * z) = 0 := if_pos hk2
      rw [e3, e4, c2]
      simp only [cond_true]
      have rg := gcdI_rg rx ry
      have eg : gcdI (x * z) (y * z) = gcdI x y * z := by
        unfold gcdI
        rw [Int.gcd_mul_right]
        have : ((z.natAbs : Nat) : Int) = z := by have := rz.lo; omega
        rw [Int.natCast_mul, this]
      have hk3 : gcdI x y * z < K := by
        by_cases hx : x = 0
        · subst hx
          have : gcdI 0 y = y := by unfold gcdI; rw [Int.gcd_zero_left]; have := ry.lo; omega
          rw [this]; exact hk2
        · have := Int.mul_le_mul_of_nonneg_right (gcdI_le_left (x := x) (y := y) (by have := rx.lo; omega)) rz.lo
          omega
      have e5 : ov (gcdI x y * z) = gcdI x y * z := if_pos hk3
      have e6 : oe (gcdI x y * z) = 0 := if_pos hk3
      have r3 : Rg (gcdI x y * z) := ⟨Int.mul_nonneg rg.lo rz.lo, hk3⟩
      rw [mul' hN rg rz]
      simp only [Option.bind_some]
      rw [e5, e6, c0, gcd_model hN ⟨m1, hk⟩ ⟨m2, hk2⟩, eg]
      simp only [Option.bind_some, cond_false]
      rw [cmp' hN r3 r3, cmp_self]
      simp only [Option.bind_some, c0, cond_false]
      exact h1
    · have e4 : oe (y * z) = 3 := if_neg hk2
      rw [e4, c1]
      exact h1
  · have e2 : oe (x * z) = 3 := if_neg hk
    rw [e2, c1]
    exact h1

theorem nd6 {N : Nat} (hN : 1000000001 < N) {x y z : Int} (rx : Rg x) (ry : Rg y) (rz : Rg z) {n : Int} (hn : n < 9223372036854775808) (w : ByteArray × ByteArray × ByteArray) : parquetlaw01_NatDivides.j6 N (true, enc (4294967296 : Int) x, enc (4294967296 : Int) y, enc (4294967296 : Int) z, w) n = some true := by
  have h2 := nd2 hN rx ry rz hn w
  have rg := gcdI_rg rx ry
  have c0 : ((0 : Int) != 0) = false := rfl
  have c2 : ((0 : Int) == 0) = true := rfl
  have c3 : ((11 : Int) == 0) = false := rfl
  have c4 : ((11 : Int) != 0) = true := rfl
  by_cases hg : gcdI x y = 0
  · -- both are 0
    have hx : x = 0 := by
      have := Int.gcd_dvd_left x y
      unfold gcdI at hg
      rw [hg] at this
      exact Int.zero_dvd.mp this
    have hy : y = 0 := by
      have := Int.gcd_dvd_right x y
      unfold gcdI at hg
      rw [hg] at this
      exact Int.zero_dvd.mp this
    unfold parquetlaw01_NatDivides.j6 parquetlaw01_NatDivides.j5 parquetlaw01_NatDivides.j4 parquetlaw01_NatDivides.j3
    simp only
    rw [gcd_model hN rx ry, hg]
    rw [hg] at h2
    subst hx
    subst hy
    simp only [Option.bind_some]
    rw [div_model hN rx rx, if_pos rfl]
    simp only [Option.bind_some, c3, cond_false, c4, cond_true]
    rw [bits_zero]
    simp only [Option.bind_some, c0, cond_false]
    exact h2
  · have dx : x % gcdI x y = 0 := Int.emod_eq_zero_of_dvd (Int.gcd_dvd_left x y)
    have dy : y % gcdI x y = 0 := Int.emod_eq_zero_of_dvd (Int.gcd_dvd_right x y)
    unfold parquetlaw01_NatDivides.j6 parquetlaw01_NatDivides.j5 parquetlaw01_NatDivides.j4 parquetlaw01_NatDivides.j3
    simp only
    rw [gcd_model hN rx ry]
    simp only [Option.bind_some]
    rw [div_model hN rx rg, if_neg hg, div_model hN ry rg, if_neg hg, dx, dy]
    simp only [Option.bind_some, c2, cond_true]
    rw [bits_zero]
    simp only [Option.bind_some, c0, cond_false]
    exact h2

theorem NatDivides (s t u : ByteArray) (n : Int) (w1 : s.size ≤ 140737488351232) (w2 : t.size ≤ 140737488351232) (w3 : u.size ≤ 140737488351232) (w4 : (Lit.int .i64 n).wf = true) : ∃ N, parquetlaw01_NatDivides.f N s t u n = some true := by
  refine ⟨8589934700, ?_⟩
  have hN : 1000000001 < 8589934700 := by decide
  have hw := works_true
  generalize 8589934700 = N at *
  obtain ⟨n0, n1⟩ := wf_i64 w4
  obtain ⟨b, hb1, hb2⟩ := beyond3 N s t u
  unfold parquetlaw01_NatDivides.f
  rw [hw, hb1]
  cases b
  · obtain ⟨s1, s2, s3⟩ := hb2 rfl
    simp only [Option.bind_some, Bool.not_true, cond_false]
    have hall : (∃ x y z, Rg x ∧ Rg y ∧ Rg z ∧ parquetlaw01_all.f N s t u = some (true, enc (4294967296 : Int) x, enc (4294967296 : Int) y, enc (4294967296 : Int) z, s, t, u)) ∨ parquetlaw01_all.f N s t u = some (false, [], [], [], s, t, u) := by
      unfold parquetlaw01_all.f
      rcases parse_cases hN s (by omega) with ⟨x, rx, _, _, hx⟩ | ⟨e, he, _, hx⟩
      · rcases parse_cases hN t (by omega) with ⟨y, ry, _, _, hy⟩ | ⟨e, he, _, hy⟩
        · rcases parse_cases hN u (by omega) with ⟨z, rz, _, _, hz⟩ | ⟨e, he, _, hz⟩
          · rw [hx, hy, hz]; exact .inl ⟨x, y, z, rx, ry, rz, rfl⟩
          · have : (e != 0) = true := by simpa using he
            rw [hx, hy, hz]; exact .inr (by simp [this])
        · have : (e != 0) = true := by simpa using he
          rw [hx, hy]; exact .inr (by simp [this])
      · have : (e != 0) = true := by simpa using he
        rw [hx]; exact .inr (by simp [this])
    rcases hall with ⟨x, y, z, rx, ry, rz, h⟩ | h
    · have h6 := nd6 hN rx ry rz n1 (s, t, u)
      rw [h]
      simp only [Option.bind_some, cond_true]
      rw [div_model hN rx ry]
      have c0 : ((0 : Int) != 0) = false := rfl
      have c2 : ((0 : Int) == 0) = true := rfl
      have c3 : ((11 : Int) == 0) = false := rfl
      have c4 : ((11 : Int) != 11) = false := rfl
      by_cases hy : y = 0
      · subst hy
        rw [if_pos rfl]
        simp only [Option.bind_some, c3, cond_false, c4]
        rw [bits_zero]
        simp only [Option.bind_some, c0, cond_false]
        exact h6
      · rw [if_neg hy]
        simp only [Option.bind_some, c2, cond_true]
        have hyp : 0 < y := by have := ry.lo; omega
        have q0 : 0 ≤ x / y := Int.ediv_nonneg rx.lo ry.lo
        have q1 : x / y ≤ x := Int.ediv_le_self _ rx.lo
        have r0 := Int.emod_nonneg x hy
        have r1 := Int.emod_lt_of_pos x hyp
        have d := Int.mul_ediv_add_emod x y
        rw [Int.mul_comm] at d
        have rq : Rg (x / y) := ⟨q0, by have := rx.hi; omega⟩
        have rr : Rg (x % y) := ⟨r0, by have := ry.hi; omega⟩
        have rm : Rg (x / y * y) := ⟨Int.mul_nonneg q0 ry.lo, by have := rx.hi; omega⟩
        have e1 : ov (x / y * y) = x / y * y := if_pos rm.hi
        have e2 : oe (x / y * y) = 0 := if_pos rm.hi
        rw [mul' hN rq ry]
        simp only [Option.bind_some]
        rw [e1, e2, add' hN rm rr, d]
        have e3 : ov x = x := if_pos rx.hi
        have e4 : oe x = 0 := if_pos rx.hi
        simp only [Option.bind_some]
        rw [e3, e4, c0]
        simp only [cond_false]
        rw [cmp' hN rx rx, cmp_self]
        simp only [Option.bind_some, c0, cond_false]
        rw [cmp' hN rr ry]
        simp only [Option.bind_some]
        have c5 : decide (cmp (x % y) y ≥ 0) = false := by
          unfold cmp
          rw [if_neg (by omega), if_pos r1]; rfl
        rw [c5]
        exact h6
    · rw [h]; rfl
  · rfl

end Go.Proofs.Ytnjlpjdncejfcaa.Pure
