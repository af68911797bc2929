-- Plain laws of the row law02: ZintWords, ZintRing, ZintGcds, ZintBack.
import Derived.Test.YtndhfopllmbjhaaPp
import Derived.Test.YtndhfopllmbjhaaPn
namespace Go.Proofs.Ytndhfopllmbjhaa.Pure
open Go Go.Proofs.Ytndhfopllmbjhaa.Ev
set_option linter.unusedVariables false
set_option linter.unusedSimpArgs false

theorem zr_zl {k : Nat} {x : Int} (h : Zl k x) (hk : k ≤ 256) : Zr x := zr_of (by
  have := h.lt
  have := hpow_mono hk
  rw [← K_H] at this
  omega)

theorem small_part {k : Nat} (hk : k ≤ 1000) (b : Bool) {l : List Int} (hd : Dig (65536 : Int) l) :
    ((decide (0 ≤ mn2 (l.length : Int) (k : Int)) && decide (mn2 (l.length : Int) (k : Int) ≤ (l.length : Int))) && decide ((l.length : Int) ≤ (l.length : Int))) = true ∧
    Dig (65536 : Int) ((l.drop 0).take (mn2 (l.length : Int) (k : Int)).toNat) ∧ Zl k (big b ((l.drop 0).take (mn2 (l.length : Int) (k : Int)).toNat)) := by
  have hm : 0 ≤ mn2 (l.length : Int) (k : Int) ∧ mn2 (l.length : Int) (k : Int) ≤ (l.length : Int) ∧ mn2 (l.length : Int) (k : Int) ≤ (k : Int) := by
    unfold mn2; split <;> omega
  have hd' : Dig (65536 : Int) ((l.drop 0).take (mn2 (l.length : Int) (k : Int)).toNat) := (hd.drop 0).take _
  refine ⟨?_, hd', Zl.of (big_lt b hd' (by rw [List.length_take]; omega))⟩
  rw [decide_eq_true hm.1, decide_eq_true hm.2.1, decide_eq_true (Int.le_refl _)]; rfl

theorem three_model {N : Nat} (hN : 1000000001 < N) {k : Nat} (hk : k ≤ 256) (b1 b2 b3 : Bool) {l1 l2 l3 : List Int} (d1 : Dig (65536 : Int) l1) (d2 : Dig (65536 : Int) l2) (d3 : Dig (65536 : Int) l3) :
    ∃ x y z, Zl k x ∧ Zl k y ∧ Zl k z ∧ parquetlaw02_three.f N b1 l1 b2 l2 b3 l3 (k : Int) = some (sg x, pB x, sg y, pB y, sg z, pB z, true) := by
  obtain ⟨c1, e1, z1⟩ := small_part (k := k) (by omega) b1 d1
  obtain ⟨c2, e2, z2⟩ := small_part (k := k) (by omega) b2 d2
  obtain ⟨c3, e3, z3⟩ := small_part (k := k) (by omega) b3 d3
  refine ⟨_, _, _, z1, z2, z3, ?_⟩
  unfold parquetlaw02_three.f
  rw [c1, c2, c3]
  simp only [cond_true]
  rw [of_big hN b1 e1]
  simp only [Option.bind_some]
  rw [made_model hN (zr_zl z1 hk)]
  simp only [Option.bind_some]
  rw [of_big hN b2 e2]
  simp only [Option.bind_some]
  rw [made_model hN (zr_zl z2 hk)]
  simp only [Option.bind_some]
  rw [of_big hN b3 e3]
  simp only [Option.bind_some]
  rw [made_model hN (zr_zl z3 hk)]
  rfl

theorem wf_i64 {n : Int} (h : (Lit.int .i64 n).wf = true) : -9223372036854775808 ≤ n ∧ n < 9223372036854775808 := by
  simp [Lit.wf, IntKind.min, IntKind.max, IntKind.bits, IntKind.signed] at h
  omega

theorem r_int64 {N : Nat} (hN : 1000000001 < N) {k : Nat} {x : Int} (h : Zl k x) (hk : k ≤ 1000000) : parquetref02_Int64.f N (sg x) (pH x) = some (if -9223372036854775808 ≤ x ∧ x < 9223372036854775808 then (x, true) else (0, false)) := by
  have hs := r_sign hN h hk
  unfold parquetref02_Int64.f
  have hsm := rsmall_enc hN (ab_nonneg x)
  have e0 : enc (65536 : Int) (ab x) = pH x := rfl
  rw [e0] at hsm
  rw [hsm]
  simp only [Option.bind_some]
  have x0 := ab_nonneg x
  by_cases h : ab x < 18446744073709551616
  · rw [if_pos h]
    simp only [Bool.not_true, cond_false]
    by_cases h1 : ab x > 9223372036854775808
    · rw [decide_eq_true h1, if_neg (by rcases ab_cases x with ⟨c1, c2⟩ | ⟨c1, c2⟩ <;> omega)]; rfl
    · rw [decide_eq_false h1, hs]
      simp only [cond_false, Option.bind_some]
      rw [sn_neg]
      rcases sg_cases x with ⟨a1, a2, a3⟩ | ⟨a1, a2, a3⟩
      · have e : wi64 (wu64 (0 - ab x)) = x := by
          rw [wu64_mod]
          have : (0 - ab x) % 18446744073709551616 = x + 18446744073709551616 := by omega
          rw [this, wi64_top (by omega) (by omega)]; omega
        rw [a1, e, if_pos (by omega), decide_eq_true a2]
        by_cases h2 : ab x = 9223372036854775808
        · have c2 : (ab x == 9223372036854775808) = true := by rw [h2]; rfl
          rw [c2]; rfl
        · have c2 : (ab x == 9223372036854775808) = false := beq_eq_false_iff_ne.mpr h2
          rw [c2]; rfl
      · have d : decide (x < 0) = false := decide_eq_false (by omega)
        rw [a1, d]
        by_cases h2 : ab x = 9223372036854775808
        · have c2 : (ab x == 9223372036854775808) = true := by rw [h2]; rfl
          rw [c2, if_neg (by omega)]; rfl
        · have c2 : (ab x == 9223372036854775808) = false := beq_eq_false_iff_ne.mpr h2
          rw [c2, if_pos (by omega), a3, wi64_id (n := x) (by omega) (by omega)]; rfl
  · rw [if_neg h, if_neg (by rcases ab_cases x with ⟨c1, c2⟩ | ⟨c1, c2⟩ <;> omega)]
    rfl

theorem ZintWords (n m : Int) (minus : Bool) (k : Int) (w1 : (Lit.int .i64 n).wf = true) (w2 : (Lit.int .i64 m).wf = true) (w3 : (Lit.int .u64 k).wf = true) : ∃ N, parquetlaw02_ZintWords.f N n m minus k = some true := by
  refine ⟨8589934700, ?_⟩
  have hN : 1000000001 < 8589934700 := by decide
  have hw := works2
  generalize 8589934700 = N at *
  obtain ⟨n0, n1⟩ := wf_i64 w1
  obtain ⟨m0, m1⟩ := wf_i64 w2
  obtain ⟨k0, k1⟩ := wf_u64 w3
  have zn := zr_i64 n0 n1
  have zm := zr_i64 m0 m1
  have rk : Rg k := ⟨k0, by have := K_big; omega⟩
  have lk : (enc (65536 : Int) k).length ≤ 256 := encH_len k0 (by rw [← K_H]; exact rk.hi)
  have zc : Zr (sv minus k) := zr_of (by rw [ab_sv _ k0]; exact rk.hi)
  have hc : ab (sv minus k) = k := ab_sv _ k0
  unfold parquetlaw02_ZintWords.f
  rw [z_of hN n0 n1]
  simp only [Option.bind_some]
  rw [r_of hN n0 n1]
  simp only [Option.bind_some]
  rw [of_model hN k0 k1]
  simp only [Option.bind_some]
  rw [z_make _ rk]
  simp only [Option.bind_some]
  rw [rof_model hN k0 k1]
  simp only [Option.bind_some]
  rw [r_make hN _ k0 (by omega)]
  simp only [Option.bind_some]
  generalize sv minus k = c at *
  have ln := zl_of zn
  have lc := zl_of zc
  have lm := zl_of zm
  obtain ⟨t1, t2⟩ := text_told hN zn
  obtain ⟨t3, t4⟩ := text_told hN zc
  rw [z_int64 zc]
  simp only [Option.bind_some]
  rw [r_int64 hN lc (by omega)]
  simp only [Option.bind_some]
  rw [z_int64 zn, if_pos ⟨n0, n1⟩]
  simp only [Option.bind_some]
  rw [t1]
  simp only [Option.bind_some]
  rw [t2]
  simp only [Option.bind_some, beq_same, cond_true]
  rw [t3]
  simp only [Option.bind_some]
  rw [t4]
  simp only [Option.bind_some, beq_same, cond_true]
  rw [z_sign zc]
  simp only [Option.bind_some]
  rw [r_sign hN lc (by omega)]
  simp only [Option.bind_some, beq_self_eq_true, cond_true]
  rw [z_of hN m0 m1]
  simp only [Option.bind_some]
  rw [z_cmp hN zn zm]
  simp only [Option.bind_some]
  rw [r_of hN m0 m1]
  simp only [Option.bind_some]
  rw [r_cmp hN ln lm (by omega)]
  simp only [Option.bind_some, beq_self_eq_true, cond_true]
  rw [z_cmp hN zn zc]
  simp only [Option.bind_some]
  rw [r_cmp hN ln lc (by omega)]
  simp only [Option.bind_some, beq_self_eq_true, cond_true]
  have ha : zint_Int_Abs.f N (sg c) (pB c) = some (pB c) := rfl
  rw [ha]
  simp only [Option.bind_some]
  have ht : nat_Nat_Text.f N (pB c) = some (dec (ab c)) := text_model hN zc.lo zc.hi
  have hr : parquetref01_Text.f N (pH c) = some (dec (ab c)) := rtext_enc hN zc.lo zc.hi
  rw [ht]
  simp only [Option.bind_some]
  rw [hr]
  simp only [Option.bind_some, beq_same, cond_true]
  rw [hw]
  rfl

theorem cmp_same (u : Int) : (cmp u u == 0) = true := by rw [cmp_self]; rfl

theorem ZintRing (b1 : Bool) (l1 : List Int) (b2 : Bool) (l2 : List Int) (b3 : Bool) (l3 : List Int) (w1 : ∀ x ∈ l1, (Lit.int .u16 x).wf = true) (w2 : ∀ x ∈ l2, (Lit.int .u16 x).wf = true) (w3 : ∀ x ∈ l3, (Lit.int .u16 x).wf = true) : ∃ N, parquetlaw02_ZintRing.f N b1 l1 b2 l2 b3 l3 = some true := by
  refine ⟨8589934700, ?_⟩
  have hN : 1000000001 < 8589934700 := by decide
  have hw := works2
  generalize 8589934700 = N at *
  have d1 : Dig (65536 : Int) l1 := fun x hx => wf_u16 (w1 x hx)
  have d2 : Dig (65536 : Int) l2 := fun x hx => wf_u16 (w2 x hx)
  have d3 : Dig (65536 : Int) l3 := fun x hx => wf_u16 (w3 x hx)
  obtain ⟨x, y, z, lx, ly, lz, h⟩ := three_model hN (k := 80) (by omega) b1 b2 b3 d1 d2 d3
  have zx := zr_zl lx (by omega)
  have zy := zr_zl ly (by omega)
  have zz := zr_zl lz (by omega)
  have lxy := lx.add ly
  have lyz := ly.add lz
  have zxy := zr_zl lxy (by omega)
  have zyz := zr_zl lyz (by omega)
  have zyx : Zr (y + x) := zr_zl (ly.add lx) (by omega)
  have s1 : Zr (x + y + z) := zr_zl (lxy.add (lz.mono (by omega))) (by omega)
  have s2 : Zr (x + (y + z)) := by rw [← Int.add_assoc]; exact s1
  have mxy := lx.mul ly
  have myz := ly.mul lz
  have mxz := lx.mul lz
  have zmxy := zr_zl mxy (by omega)
  have zmyx : Zr (y * x) := zr_zl (ly.mul lx) (by omega)
  have zmyz := zr_zl myz (by omega)
  have zmxz := zr_zl mxz (by omega)
  have p1 : Zr (x * y * z) := zr_zl (mxy.mul lz) (by omega)
  have p2 : Zr (x * (y * z)) := by rw [← Int.mul_assoc]; exact p1
  have p3 : Zr ((x + y) * z) := zr_zl (lxy.mul lz) (by omega)
  have p4 : Zr (x * z + y * z) := zr_zl (mxz.add myz) (by omega)
  have p5 : Zr (x - y) := zr_zl (lx.sub ly) (by omega)
  have p6 : Zr (x + -y) := by rw [← Int.sub_eq_add_neg]; exact p5
  unfold parquetlaw02_ZintRing.f
  have e80 : ((80 : Nat) : Int) = 80 := rfl
  rw [e80] at h
  rw [h]
  simp only [Option.bind_some, Bool.not_true, cond_false]
  rw [z_add hN zx zy, zo_id zxy]
  simp only [Option.bind_some]
  rw [z_add hN zy zx, zo_id zyx]
  simp only [Option.bind_some]
  rw [z_add hN zy zz, zo_id zyz]
  simp only [Option.bind_some]
  rw [z_add hN zxy zz, zo_id s1]
  simp only [Option.bind_some]
  rw [z_add hN zx zyz, zo_id s2]
  simp only [Option.bind_some]
  rw [z_cmp hN zxy zyx, Int.add_comm y x]
  simp only [Option.bind_some, cmp_same, cond_true]
  rw [z_cmp hN s1 s2, Int.add_assoc]
  simp only [Option.bind_some]
  rw [z_mul hN zx zy, zo_id zmxy]
  simp only [Option.bind_some]
  rw [z_mul hN zy zx, zo_id zmyx]
  simp only [Option.bind_some]
  rw [z_mul hN zy zz, zo_id zmyz]
  simp only [Option.bind_some]
  rw [z_mul hN zmxy zz, zo_id p1]
  simp only [Option.bind_some]
  rw [z_mul hN zx zmyz, zo_id p2]
  simp only [Option.bind_some]
  rw [z_cmp hN zmxy zmyx, Int.mul_comm y x]
  simp only [Option.bind_some, cmp_same, cond_true]
  rw [z_cmp hN p1 p2, Int.mul_assoc]
  simp only [Option.bind_some]
  rw [z_mul hN zx zz, zo_id zmxz]
  simp only [Option.bind_some]
  rw [z_mul hN zxy zz, zo_id p3]
  simp only [Option.bind_some]
  rw [z_add hN zmxz zmyz, zo_id p4, ze_id p4]
  simp only [Option.bind_some]
  rw [z_sub hN zx zy, zo_id p5]
  simp only [Option.bind_some]
  rw [z_neg zy]
  simp only [Option.bind_some]
  rw [z_add hN zx (zr_neg zy), zo_id p6]
  have c0 : ((0 : Int) == 0) = true := rfl
  simp only [Option.bind_some, cmp_same, cond_true, c0]
  rw [z_cmp hN p3 p4, Int.add_mul]
  simp only [Option.bind_some, cmp_same, cond_true]
  rw [z_cmp hN p5 p6, Int.sub_eq_add_neg]
  simp only [Option.bind_some, cmp_same, cond_true]
  rw [hw]
  rfl

theorem gcd_room {k : Nat} {x : Int} (h : Zl k x) (hk : k ≤ 250) : 3 * ab x + 6 < K ∧ 2 * ab x < K := by
  have h1 := h.lt
  have h2 := hpow_mono hk
  have h3 : (65536 : Int) ^ 256 = 65536 ^ 250 * 65536 ^ 6 := by rw [← Int.pow_add]
  have h4 : (65536 : Int) ^ 6 = 79228162514264337593543950336 := by decide
  have h5 : (1 : Int) ≤ 65536 ^ 250 := Int.pow_pos (by decide)
  rw [K_H, h3, h4]
  generalize (65536 : Int) ^ 250 = P at *
  have := ab_nonneg x
  constructor <;> omega

theorem ZintGcds (b1 : Bool) (l1 : List Int) (b2 : Bool) (l2 : List Int) (w1 : ∀ x ∈ l1, (Lit.int .u16 x).wf = true) (w2 : ∀ x ∈ l2, (Lit.int .u16 x).wf = true) : ∃ N, parquetlaw02_ZintGcds.f N b1 l1 b2 l2 = some true := by
  refine ⟨8589934700, ?_⟩
  have hN : 1000000001 < 8589934700 := by decide
  have hw := works2
  generalize 8589934700 = N at *
  have d1 : Dig (65536 : Int) l1 := fun x hx => wf_u16 (w1 x hx)
  have d2 : Dig (65536 : Int) l2 := fun x hx => wf_u16 (w2 x hx)
  obtain ⟨c1, e1, z1⟩ := small_part (k := 40) (by omega) b1 d1
  obtain ⟨c2, e2, z2⟩ := small_part (k := 40) (by omega) b2 d2
  have e40 : ((40 : Nat) : Int) = 40 := rfl
  rw [e40] at c1 c2 e1 e2 z1 z2
  unfold parquetlaw02_ZintGcds.f
  rw [c1, c2]
  simp only [cond_true]
  rw [of_big hN b1 e1]
  simp only [Option.bind_some]
  rw [of_big hN b2 e2]
  simp only [Option.bind_some]
  generalize big b1 _ = x at *
  generalize big b2 _ = y at *
  have zx := zr_zl z1 (by omega)
  have zy := zr_zl z2 (by omega)
  rw [made_model hN zx]
  simp only [Option.bind_some]
  rw [made_model hN zy]
  simp only [Option.bind_some, Bool.not_true, cond_false]
  obtain ⟨r1, r2⟩ := gcd_room z1 (by omega)
  obtain ⟨r3, r4⟩ := gcd_room z2 (by omega)
  obtain ⟨g, u, v, h1, h2, h3⟩ := z_gcd hN r1 r4
  obtain ⟨g', u', v', h4, h5⟩ := r_gcd hN zx zy
  obtain ⟨q1, q2, q3⟩ := h1.unique h4
  subst q1
  subst q2
  subst q3
  rw [h3]
  simp only [Option.bind_some]
  rw [h5]
  simp only [Option.bind_some]
  have hg : Rg (ab g) := by
    have := gcdI_rg zx zy
    rw [gcdI_ab, ← h1.eg] at this
    rw [ab_of this.lo]; exact this
  have ht : nat_Nat_Text.f N (pB g) = some (dec (ab g)) := text_model hN hg.lo hg.hi
  have hr : parquetref01_Text.f N (pH g) = some (dec (ab g)) := rtext_enc hN hg.lo hg.hi
  rw [ht]
  simp only [Option.bind_some]
  rw [hr]
  simp only [Option.bind_some, beq_same, cond_true]
  have zu : Zr u := by
    by_cases hy : y = 0
    · obtain ⟨k1, k2⟩ := h1.bz hy
      rw [k1]
      obtain ⟨m1, m2⟩ := sn_bound x
      exact zr_i64 m1 m2
    · obtain ⟨k1, k2⟩ := h1.lo hy
      have gp := gcdI_pos (a := x) hy
      rw [← h1.eg] at gp
      have := Int.ediv_le_self g (ab_nonneg y)
      exact zr_of (by rw [ab_of k1]; have := zy.hi; omega)
  have zv : Zr v := zr_of (by have := ab_nonneg x; omega)
  rw [is_num hN zu]
  simp only [Option.bind_some, cond_true]
  rw [is_num hN zv]
  simp only [Option.bind_some, cond_true]
  rw [hw]
  rfl

end Go.Proofs.Ytndhfopllmbjhaa.Pure
