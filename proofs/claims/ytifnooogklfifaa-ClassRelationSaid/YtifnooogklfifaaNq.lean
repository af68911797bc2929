-- Plain laws of the row law02: whole numbers: their parts; sums and products; texts.
import Derived.Test.YtifnooogklfifaaNp
import Derived.KernelRfl
namespace Go.Proofs.Ytifnooogklfifaa.NatL
open Go Go.Proofs.Ytifnooogklfifaa.Ev
set_option linter.unusedVariables false
set_option linter.unusedSimpArgs false

/-- A number without its sign. -/
def ab (x : Int) : Int := if x < 0 then -x else x
theorem ab_nonneg (x : Int) : 0 ≤ ab x := by unfold ab; split <;> omega
theorem ab_cases (x : Int) : (0 ≤ x ∧ ab x = x) ∨ (x < 0 ∧ ab x = -x) := by unfold ab; split <;> omega
theorem ab_zero {x : Int} : ab x = 0 ↔ x = 0 := by rcases ab_cases x with ⟨h, e⟩ | ⟨h, e⟩ <;> omega

def sg (x : Int) : Bool := decide (x < 0)

theorem make_model (N : Nat) {v : Int} (b : Bool) (h : Rg v) : zint_Make.f N b (enc (4294967296 : Int) v) = some (b && decide (0 < v), enc (4294967296 : Int) v) := by
  obtain ⟨h1, h2⟩ := enc_spec B2 h.lo
  have hl := enc_len128 h.lo h.hi
  unfold zint_Make.f
  rw [bits_model N h1 (by omega), h2]
  cases b
  · rfl
  · have := blen_nonneg v
    have hz := blen_le h.lo 0
    have e0 : (2 : Int) ^ 0 = 1 := rfl
    rw [e0] at hz
    have : decide (blen v > 0) = decide (0 < v) := by
      refine decide_eq_decide.mpr ⟨fun q => ?_, fun q => ?_⟩
      · rcases Int.lt_or_le 0 v with p | p
        · exact p
        · have := hz.mpr (by omega); omega
      · rcases Int.lt_or_le 0 (blen v) with p | p
        · exact p
        · have := hz.mp (by omega); omega
    simp [this]


/-- The digits of a whole number without its sign, the program's and the document's. -/
noncomputable def pB (x : Int) : List Int := enc (4294967296 : Int) (ab x)
noncomputable def pH (x : Int) : List Int := enc (65536 : Int) (ab x)
/-- A number with a sign before it. -/
def sv (b : Bool) (v : Int) : Int := if b then -v else v
abbrev Zr (x : Int) : Prop := Rg (ab x)

theorem pB_zero : pB 0 = [] := enc_zero B2
theorem pH_zero : pH 0 = [] := enc_zero H2
theorem sg_zero : sg 0 = false := rfl
theorem ab_of {v : Int} (h : 0 ≤ v) : ab v = v := by unfold ab; rw [if_neg (by omega)]
theorem ab_ab (x : Int) : ab (ab x) = ab x := ab_of (ab_nonneg x)
theorem ab_neg (x : Int) : ab (-x) = ab x := by unfold ab; split <;> split <;> omega
theorem sg_of {v : Int} (h : 0 ≤ v) : sg v = false := decide_eq_false (by omega)
theorem sg_sv (b : Bool) {v : Int} (h : 0 ≤ v) : sg (sv b v) = (b && decide (0 < v)) := by
  unfold sg sv
  cases b
  · simp; omega
  · rw [if_pos rfl]
    by_cases h1 : 0 < v
    · rw [decide_eq_true h1, decide_eq_true (by omega)]; rfl
    · rw [decide_eq_false h1, decide_eq_false (by omega)]; rfl
theorem ab_sv (b : Bool) {v : Int} (h : 0 ≤ v) : ab (sv b v) = v := by
  unfold ab sv
  cases b
  · simp; omega
  · rw [if_pos rfl]; split <;> omega
theorem sv_sg (x : Int) : sv (sg x) (ab x) = x := by
  unfold sv sg ab
  by_cases h : x < 0 <;> simp [h]
theorem sv_nsg (x : Int) : sv (!sg x) (ab x) = -x := by
  unfold sv sg ab
  by_cases h : x < 0 <;> simp [h]
theorem sg_cases (x : Int) : (sg x = true ∧ x < 0 ∧ ab x = -x) ∨ (sg x = false ∧ 0 ≤ x ∧ ab x = x) := by
  unfold sg ab
  by_cases h : x < 0
  · left; exact ⟨decide_eq_true h, h, if_pos h⟩
  · right; exact ⟨decide_eq_false h, by omega, if_neg h⟩
theorem sv_zero (b : Bool) : sv b 0 = 0 := by cases b <;> rfl
theorem zr_of {x : Int} (h : ab x < K) : Zr x := ⟨ab_nonneg x, h⟩
theorem zr_zero : Zr 0 := zr_of K_pos
theorem zr_neg {x : Int} (h : Zr x) : Zr (-x) := zr_of (by rw [ab_neg]; exact h.hi)
theorem zr_ab {x : Int} (h : Zr x) : Zr (ab x) := zr_of (by rw [ab_ab]; exact h.hi)

/-- What is told of a number that may be too long. -/
def zo (r : Int) : Int := if ab r < K then r else 0
def ze (r : Int) : Int := if ab r < K then 0 else 3
theorem zo_zr (r : Int) : Zr (zo r) := by
  unfold zo; split
  · exact zr_of (by assumption)
  · exact zr_zero
theorem zo_id {r : Int} (h : Zr r) : zo r = r := if_pos h.hi
theorem ze_id {r : Int} (h : Zr r) : ze r = 0 := if_pos h.hi

theorem z_make {N : Nat} {v : Int} (b : Bool) (h : Rg v) : zint_Make.f N b (enc (4294967296 : Int) v) = some (sg (sv b v), pB (sv b v)) := by
  rw [make_model N b h, sg_sv b h.lo]; unfold pB; rw [ab_sv b h.lo]
theorem z_make' {N : Nat} {x : Int} (b : Bool) (h : Zr x) : zint_Make.f N b (pB x) = some (sg (sv b (ab x)), pB (sv b (ab x))) := z_make b h

theorem cmp_neg (u v : Int) : decide (cmp u v < 0) = decide (u < v) := by
  unfold cmp
  by_cases h : u = v
  · rw [if_pos h, decide_eq_false (show ¬ u < v by omega)]; rfl
  · by_cases h1 : u < v
    · rw [if_neg h, if_pos h1, decide_eq_true h1]; rfl
    · rw [if_neg h, if_neg h1, decide_eq_false h1]; rfl
theorem cmp_nneg (u v : Int) : decide (cmp u v ≥ 0) = decide (v ≤ u) := by
  unfold cmp
  by_cases h : u = v
  · rw [if_pos h, decide_eq_true (show v ≤ u by omega)]; rfl
  · by_cases h1 : u < v
    · rw [if_neg h, if_pos h1, decide_eq_false (show ¬ v ≤ u by omega)]; rfl
    · rw [if_neg h, if_neg h1, decide_eq_true (show v ≤ u by omega)]; rfl

theorem add_same {x y : Int} (h : sg x = sg y) : sv (sg x) (ov (ab x + ab y)) = zo (x + y) ∧ oe (ab x + ab y) = ze (x + y) := by
  have e : ab (x + y) = ab x + ab y := by
    rcases sg_cases x with ⟨a1, a2, a3⟩ | ⟨a1, a2, a3⟩ <;> rcases sg_cases y with ⟨b1, b2, b3⟩ | ⟨b1, b2, b3⟩ <;> rw [a1, b1] at h
    · rw [a3, b3]; unfold ab; rw [if_pos (by omega)]; omega
    · cases h
    · cases h
    · rw [a3, b3]; unfold ab; rw [if_neg (by omega)]
  have e2 : sg (x + y) = sg x ∨ x + y = 0 := by
    rcases sg_cases x with ⟨a1, a2, a3⟩ | ⟨a1, a2, a3⟩ <;> rcases sg_cases y with ⟨b1, b2, b3⟩ | ⟨b1, b2, b3⟩ <;> rw [a1, b1] at h
    · left; rw [a1]; exact decide_eq_true (by omega)
    · cases h
    · cases h
    · left; rw [a1]; exact decide_eq_false (by omega)
  unfold zo ze ov oe
  rw [e]
  refine ⟨?_, rfl⟩
  split
  · rw [← e]
    rcases e2 with e2 | e2
    · rw [← e2]; exact sv_sg _
    · rw [e2]; exact sv_zero _
  · exact sv_zero _

theorem add_diff {x y : Int} (hx : Zr x) (hy : Zr y) (h : sg x ≠ sg y) : Zr (x + y) ∧ (ab x < ab y → sv (sg y) (ab y - ab x) = x + y) ∧ (ab y ≤ ab x → sv (sg x) (ab x - ab y) = x + y) := by
  have hx1 := hx.hi
  have hy1 := hy.hi
  rcases sg_cases x with ⟨a1, a2, a3⟩ | ⟨a1, a2, a3⟩ <;> rcases sg_cases y with ⟨b1, b2, b3⟩ | ⟨b1, b2, b3⟩ <;> rw [a1, b1] at h
  · exact absurd rfl h
  · refine ⟨zr_of ?_, ?_, ?_⟩
    · rcases ab_cases (x + y) with ⟨c1, c2⟩ | ⟨c1, c2⟩ <;> omega
    · intro _; rw [b1, a3, b3]; unfold sv; simp; omega
    · intro _; rw [a1, a3, b3]; unfold sv; simp; omega
  · refine ⟨zr_of ?_, ?_, ?_⟩
    · rcases ab_cases (x + y) with ⟨c1, c2⟩ | ⟨c1, c2⟩ <;> omega
    · intro _; rw [b1, a3, b3]; unfold sv; simp; omega
    · intro _; rw [a1, a3, b3]; unfold sv; simp
  · exact absurd rfl h

theorem z_add {N : Nat} (hN : 1000000001 < N) {x y : Int} (hx : Zr x) (hy : Zr y) : zint_Add.f N (sg x) (pB x) (sg y) (pB y) = some (sg (zo (x + y)), pB (zo (x + y)), ze (x + y)) := by
  unfold zint_Add.f
  by_cases h : sg x = sg y
  · have c : (sg x == sg y) = true := by rw [h]; exact beq_self_eq_true _
    obtain ⟨e1, e2⟩ := add_same h
    rw [c]
    simp only [cond_true]
    unfold pB
    rw [add' hN hx hy]
    simp only [Option.bind_some]
    rw [z_make _ (Rg.ov (by have := hx.lo; have := hy.lo; omega)), e1, e2]
    rfl
  · have c : (sg x == sg y) = false := beq_eq_false_iff_ne.mpr h
    obtain ⟨e1, e2, e3⟩ := add_diff hx hy h
    rw [c, zo_id e1, ze_id e1]
    simp only [cond_false]
    unfold pB
    rw [cmp' hN hx hy]
    simp only [Option.bind_some]
    rw [cmp_neg]
    by_cases hl : ab x < ab y
    · rw [decide_eq_true hl]
      simp only [cond_true]
      rw [sub_enc hN hy.lo hy.hi hx.lo, if_neg (by omega)]
      simp only [Option.bind_some]
      rw [z_make _ ⟨by omega, by have := hy.hi; have := hx.lo; omega⟩, e2 hl]
      rfl
    · rw [decide_eq_false hl]
      simp only [cond_false]
      rw [sub_enc hN hx.lo hx.hi hy.lo, if_neg hl]
      simp only [Option.bind_some]
      rw [z_make _ ⟨by omega, by have := hx.hi; have := hy.lo; omega⟩, e3 (by omega)]
      rfl

theorem z_neg {N : Nat} {x : Int} (hx : Zr x) : zint_Neg.f N (sg x) (pB x) = some (sg (-x), pB (-x)) := by
  unfold zint_Neg.f
  rw [z_make' _ hx, sv_nsg]
  rfl

theorem z_sub {N : Nat} (hN : 1000000001 < N) {x y : Int} (hx : Zr x) (hy : Zr y) : zint_Sub.f N (sg x) (pB x) (sg y) (pB y) = some (sg (zo (x - y)), pB (zo (x - y)), ze (x - y)) := by
  unfold zint_Sub.f
  rw [z_neg hy]
  simp only [Option.bind_some]
  rw [z_add hN hx (zr_neg hy), Int.sub_eq_add_neg]
  rfl

theorem ab_mul (x y : Int) : ab (x * y) = ab x * ab y := by
  rcases ab_cases x with ⟨a2, a3⟩ | ⟨a2, a3⟩ <;> rcases ab_cases y with ⟨b2, b3⟩ | ⟨b2, b3⟩ <;> rw [a3, b3]
  · exact ab_of (Int.mul_nonneg a2 b2)
  · rw [Int.mul_neg, ← ab_neg, ab_of (by have := Int.mul_nonneg a2 (show 0 ≤ -y by omega); rw [Int.mul_neg] at this; exact this)]
  · rw [Int.neg_mul, ← ab_neg, ab_of (by have := Int.mul_nonneg (show 0 ≤ -x by omega) b2; rw [Int.neg_mul] at this; exact this)]
  · rw [Int.neg_mul_neg]; exact ab_of (Int.le_of_lt (Int.mul_pos_of_neg_of_neg a2 b2))

theorem sv_mul (x y : Int) : sv (!(sg x == sg y)) (ab x * ab y) = x * y := by
  rcases sg_cases x with ⟨a1, a2, a3⟩ | ⟨a1, a2, a3⟩ <;> rcases sg_cases y with ⟨b1, b2, b3⟩ | ⟨b1, b2, b3⟩ <;> rw [a1, b1, a3, b3] <;> unfold sv
  · simp [Int.neg_mul_neg]
  · simp [Int.neg_mul]
  · simp [Int.mul_neg]
  · simp

theorem mul_told (x y : Int) : sv (!(sg x == sg y)) (ov (ab x * ab y)) = zo (x * y) ∧ oe (ab x * ab y) = ze (x * y) := by
  unfold zo ze ov oe
  rw [ab_mul]
  refine ⟨?_, rfl⟩
  split
  · exact sv_mul x y
  · exact sv_zero _

theorem z_mul {N : Nat} (hN : 1000000001 < N) {x y : Int} (hx : Zr x) (hy : Zr y) : zint_Mul.f N (sg x) (pB x) (sg y) (pB y) = some (sg (zo (x * y)), pB (zo (x * y)), ze (x * y)) := by
  unfold zint_Mul.f
  obtain ⟨e1, e2⟩ := mul_told x y
  unfold pB
  rw [mul' hN hx hy]
  simp only [Option.bind_some]
  rw [z_make _ (Rg.ov (Int.mul_nonneg hx.lo hy.lo)), e1, e2]
  rfl

/-- The sign of a number. -/
def sn (x : Int) : Int := if ab x = 0 then 0 else if sg x then -1 else 1
theorem sn_cases (x : Int) : (x = 0 ∧ sn x = 0) ∨ (x < 0 ∧ sn x = -1) ∨ (0 < x ∧ sn x = 1) := by
  unfold sn
  by_cases h : x = 0
  · left; exact ⟨h, if_pos (ab_zero.mpr h)⟩
  · rw [if_neg (fun q => h (ab_zero.mp q))]
    rcases sg_cases x with ⟨a1, a2, a3⟩ | ⟨a1, a2, a3⟩
    · right; left; rw [a1]; exact ⟨a2, rfl⟩
    · right; right; rw [a1]; exact ⟨by omega, rfl⟩

theorem sn_neg (x : Int) : decide (sn x < 0) = decide (x < 0) := by
  rcases sn_cases x with ⟨s1, s2⟩ | ⟨s1, s2⟩ | ⟨s1, s2⟩ <;> rw [s2]
  · rw [decide_eq_false (show ¬ x < 0 by omega)]; rfl
  · rw [decide_eq_true s1]; rfl
  · rw [decide_eq_false (show ¬ x < 0 by omega)]; rfl

theorem z_sign {N : Nat} {x : Int} (hx : Zr x) : zint_Int_Sign.f N (sg x) (pB x) = some (sn x) := by
  obtain ⟨h1, h2⟩ := enc_spec B2 hx.lo
  have hl := enc_len128 hx.lo hx.hi
  unfold zint_Int_Sign.f pB
  rw [bits_model N h1 (by omega), h2]
  simp only [Option.bind_some]
  have hz := blen_zero_iff hx.lo
  unfold sn
  by_cases h : ab x = 0
  · rw [if_pos h, hz.mpr h]; rfl
  · have c : (blen (ab x) == 0) = false := beq_eq_false_iff_ne.mpr (fun q => h (hz.mp q))
    rw [if_neg h, c]
    cases sg x <;> rfl

theorem z_of {N : Nat} (hN : 1000000001 < N) {n : Int} (h0 : -9223372036854775808 ≤ n) (h1 : n < 9223372036854775808) : zint_Of.f N n = some (sg n, pB n) := by
  unfold zint_Of.f pB
  rcases sg_cases n with ⟨a1, a2, a3⟩ | ⟨a1, a2, a3⟩
  · have e : wu64 (0 - wu64 n) = -n := by rw [wu64_mod, wu64_mod]; omega
    rw [decide_eq_true a2, e, of_model hN (by omega) (by omega), a1, a3]
    rfl
  · have d : decide (n < 0) = false := decide_eq_false (by omega)
    rw [d, wu64_id (n := n) (by omega) (by omega), a1, a3]
    simp only [cond_false]
    rw [of_model hN (by omega) (by omega)]
    rfl
theorem zr_i64 {n : Int} (h0 : -9223372036854775808 ≤ n) (h1 : n < 9223372036854775808) : Zr n := zr_of (by have := K_big; rcases ab_cases n with ⟨c1, c2⟩ | ⟨c1, c2⟩ <;> omega)

/-- Division with a rest from 0 on, from that of the numbers without signs. -/
theorem quo_told {x y : Int} (hy : y ≠ 0) :
    ((sg x = true ∧ 0 < ab x % ab y) → sv (!(sg x == sg y)) (ab x / ab y + 1) = x / y ∧ ab y - ab x % ab y = x % y) ∧
    (¬ (sg x = true ∧ 0 < ab x % ab y) → sv (!(sg x == sg y)) (ab x / ab y) = x / y ∧ ab x % ab y = x % y) := by
  have yp : 0 < ab y := by have := ab_nonneg y; have : ab y ≠ 0 := fun q => hy (ab_zero.mp q); omega
  have e1 : x / y = sv (sg y) (x / ab y) ∧ x % y = x % ab y := by
    rcases sg_cases y with ⟨b1, b2, b3⟩ | ⟨b1, b2, b3⟩
    · rw [b1, b3, Int.emod_neg, Int.ediv_neg]
      unfold sv
      simp
    · rw [b1, b3]; exact ⟨rfl, rfl⟩
  obtain ⟨e2, e3⟩ := e1
  rw [e2, e3]
  generalize ab y = d at *
  rcases sg_cases x with ⟨a1, a2, a3⟩ | ⟨a1, a2, a3⟩
  · rw [a1, a3]
    have d1 := Int.mul_ediv_add_emod (-x) d
    have d2 := Int.emod_nonneg (-x) (show d ≠ 0 by omega)
    have d3 := Int.emod_lt_of_pos (-x) yp
    generalize -x / d = q at *
    generalize -x % d = r at *
    refine ⟨fun h => ?_, fun h => ?_⟩
    · have u := (Int.ediv_emod_unique (a := x) (r := d - r) (q := -(q + 1)) yp).mpr ⟨by grind, by omega, by omega⟩
      rw [u.1, u.2]
      refine ⟨?_, rfl⟩
      cases sg y <;> simp [sv]
    · have hr : r = 0 := by
        rcases Int.lt_or_le 0 r with h1 | h1
        · exact absurd ⟨rfl, h1⟩ h
        · omega
      subst hr
      have u := (Int.ediv_emod_unique (a := x) (r := 0) (q := -q) yp).mpr ⟨by grind, by omega, by omega⟩
      rw [u.1, u.2]
      refine ⟨?_, rfl⟩
      cases sg y <;> simp [sv]
  · rw [a1, a3]
    refine ⟨fun h => (by cases h.1), fun _ => ⟨?_, rfl⟩⟩
    cases sg y <;> simp [sv]

theorem z_quo {N : Nat} (hN : 1000000001 < N) {x y : Int} (hx : Zr x) (hy : Zr y) (h : y ≠ 0) : zint_Quo.f N (sg x) (pB x) (sg y) (pB y) = some (sg (x / y), pB (x / y), sg (x % y), pB (x % y), 0) ∧ Zr (x / y) ∧ Zr (x % y) := by
  obtain ⟨t1, t2⟩ := quo_told (x := x) h
  have x0 := hx.lo
  have y0 := hy.lo
  have xK := hx.hi
  have yK := hy.hi
  have hyz : ab y ≠ 0 := fun q => h (ab_zero.mp q)
  have yp : 0 < ab y := by omega
  have q0 : 0 ≤ ab x / ab y := Int.ediv_nonneg x0 y0
  have q1 : ab x / ab y ≤ ab x := Int.ediv_le_self _ x0
  have r0 := Int.emod_nonneg (ab x) hyz
  have r1 := Int.emod_lt_of_pos (ab x) yp
  have hq : Rg (ab x / ab y) := ⟨q0, by omega⟩
  have hr : Rg (ab x % ab y) := ⟨r0, by omega⟩
  unfold zint_Quo.f
  unfold pB
  rw [div_model hN hx hy, if_neg hyz]
  have c0 : ((0 : Int) != 0) = false := rfl
  simp only [Option.bind_some, c0, cond_false]
  by_cases hc : sg x = true ∧ 0 < ab x % ab y
  · obtain ⟨u1, u2⟩ := t1 hc
    obtain ⟨c1, c2⟩ := hr.lo, hr.hi
    obtain ⟨h1, h2⟩ := enc_spec B2 hr.lo
    have hl := enc_len128 hr.lo hr.hi
    have hbit := bits_model N h1 (by omega)
    rw [h2] at hbit
    have hbz := blen_zero_iff hr.lo
    have hbn := blen_nonneg (ab x % ab y)
    have c3 : decide (blen (ab x % ab y) > 0) = true := decide_eq_true (by
      have : blen (ab x % ab y) ≠ 0 := fun q => by have := hbz.mp q; omega
      omega)
    rw [hc.1]
    simp only [cond_true]
    rw [hbit]
    simp only [Option.bind_some, c3, cond_true]
    rw [of_model hN (by decide) (by decide)]
    simp only [Option.bind_some]
    have one : Rg 1 := ⟨by decide, by have := K_big; omega⟩
    have hq1 : ab x / ab y + 1 < K := by
      by_cases h2 : ab y = 1
      · rw [h2, Int.emod_one] at hc; omega
      · have d1 := Int.mul_ediv_add_emod (ab x) (ab y)
        have d2 := Int.mul_le_mul_of_nonneg_right (show 2 ≤ ab y by omega) q0
        omega
    have hq1' : Rg (ab x / ab y + 1) := ⟨by omega, hq1⟩
    rw [add' hN hq one]
    simp only [Option.bind_some]
    have ho : ov (ab x / ab y + 1) = ab x / ab y + 1 := if_pos hq1
    rw [ho, sub_enc hN y0 yK r0, if_neg (by omega)]
    simp only [Option.bind_some]
    have hr' : Rg (ab y - ab x % ab y) := ⟨by omega, by omega⟩
    rw [z_make _ hq1']
    simp only [Option.bind_some]
    rw [z_make _ hr']
    simp only [Option.bind_some]
    rw [hc.1] at u1
    have u3 : sv false (ab y - ab x % ab y) = x % y := u2
    rw [u1, u3]
    refine ⟨rfl, zr_of ?_, zr_of ?_⟩
    · rw [← u1, ab_sv _ (by omega)]; exact hq1
    · rw [← u2, ab_of (by omega)]; omega
  · obtain ⟨u1, u2⟩ := t2 hc
    have u3 : sv false (ab x % ab y) = x % y := u2
    have fin : ((zint_Make.f N (!(sg x == sg y)) (enc (4294967296 : Int) (ab x / ab y))).bind fun r12 =>
        (zint_Make.f N false (enc (4294967296 : Int) (ab x % ab y))).bind fun r13 =>
        some (r12.1, r12.2, r13.1, r13.2, (0 : Int))) = some (sg (x / y), enc (4294967296 : Int) (ab (x / y)), sg (x % y), enc (4294967296 : Int) (ab (x % y)), 0) := by
      rw [z_make _ hq]
      simp only [Option.bind_some]
      rw [z_make _ hr]
      simp only [Option.bind_some]
      rw [u1, u3]
      rfl
    refine ⟨?_, zr_of ?_, zr_of ?_⟩
    · by_cases hs : sg x = true
      · obtain ⟨h1, h2⟩ := enc_spec B2 hr.lo
        have hl := enc_len128 hr.lo hr.hi
        have hbit := bits_model N h1 (by omega)
        rw [h2] at hbit
        have hrz : ab x % ab y = 0 := by
          rcases Int.lt_or_le 0 (ab x % ab y) with h3 | h3
          · exact absurd ⟨hs, h3⟩ hc
          · omega
        have c3 : decide (blen (ab x % ab y) > 0) = false := by
          rw [(blen_zero_iff hr.lo).mpr hrz]; rfl
        rw [hs] at fin ⊢
        simp only [cond_true]
        rw [hbit]
        simp only [Option.bind_some, c3, cond_false]
        exact fin
      · have hs' : sg x = false := by cases hq : sg x <;> simp_all
        rw [hs'] at fin ⊢
        exact fin
    · rw [← u1, ab_sv _ q0]; omega
    · rw [← u2, ab_of r0]; omega

theorem z_quo0 {N : Nat} (hN : 1000000001 < N) {x : Int} (hx : Zr x) : zint_Quo.f N (sg x) (pB x) (sg 0) (pB 0) = some (false, [], false, [], 11) := by
  unfold zint_Quo.f pB
  rw [div_model hN hx zr_zero, if_pos (show ab 0 = 0 from rfl)]
  rfl

theorem z_exact0 {N : Nat} (hN : 1000000001 < N) {x : Int} (hx : Zr x) : zint_Exact.f N (sg x) (pB x) (sg 0) (pB 0) = some (false, [], 11) := by
  unfold zint_Exact.f
  rw [z_quo0 hN hx]
  rfl

theorem z_exact {N : Nat} (hN : 1000000001 < N) {x y : Int} (hx : Zr x) (hy : Zr y) (h : y ≠ 0) : zint_Exact.f N (sg x) (pB x) (sg y) (pB y) = some (if x % y = 0 then (sg (x / y), pB (x / y), 0) else (false, [], 2)) := by
  obtain ⟨q1, q2, q3⟩ := z_quo hN hx hy h
  unfold zint_Exact.f
  rw [q1]
  have c0 : ((0 : Int) != 0) = false := rfl
  simp only [Option.bind_some, c0, cond_false]
  rw [z_sign q3]
  simp only [Option.bind_some]
  rcases sn_cases (x % y) with ⟨s1, s2⟩ | ⟨s1, s2⟩ | ⟨s1, s2⟩ <;> rw [s2]
  · rw [if_pos s1]; rfl
  · rw [if_neg (by omega)]; rfl
  · rw [if_neg (by omega)]; rfl

theorem ab_add_le (x y : Int) : ab (x + y) ≤ ab x + ab y := by
  rcases ab_cases x with ⟨a1, a2⟩ | ⟨a1, a2⟩ <;> rcases ab_cases y with ⟨b1, b2⟩ | ⟨b1, b2⟩ <;> rcases ab_cases (x + y) with ⟨c1, c2⟩ | ⟨c1, c2⟩ <;> omega
theorem ab_sub_le (x y : Int) : ab (x - y) ≤ ab x + ab y := by
  have := ab_add_le x (-y)
  rw [ab_neg, ← Int.sub_eq_add_neg] at this
  exact this
theorem wi64_top {n : Int} (h1 : 9223372036854775808 ≤ n) (h2 : n < 18446744073709551616) : wi64 n = n - 18446744073709551616 := by
  simp only [wi64, IntKind.wrap]
  simp [IntKind.bits, IntKind.signed]
  omega
theorem z_int64 {N : Nat} {x : Int} (hx : Zr x) : zint_Int_Int64.f N (sg x) (pB x) = some (if -9223372036854775808 ≤ x ∧ x < 9223372036854775808 then (x, true) else (0, false)) := by
  unfold zint_Int_Int64.f pB
  rw [u64_model N hx.lo]
  simp only [Option.bind_some]
  have x0 := hx.lo
  by_cases h : ab x < 18446744073709551616
  · rw [if_pos h]
    simp only [Bool.not_true, cond_false]
    by_cases h1 : ab x > 9223372036854775808
    · rw [decide_eq_true h1, if_neg (by rcases ab_cases x with ⟨c1, c2⟩ | ⟨c1, c2⟩ <;> omega)]; rfl
    · rw [decide_eq_false h1]
      simp only [cond_false]
      rcases sg_cases x with ⟨a1, a2, a3⟩ | ⟨a1, a2, a3⟩
      · have e : wi64 (wu64 (0 - ab x)) = x := by
          rw [wu64_mod]
          have : (0 - ab x) % 18446744073709551616 = x + 18446744073709551616 := by omega
          rw [this, wi64_top (by omega) (by omega)]; omega
        rw [a1, e, if_pos (by omega)]
        by_cases h2 : ab x = 9223372036854775808
        · have c2 : (ab x == 9223372036854775808) = true := by rw [h2]; rfl
          rw [c2]; rfl
        · have c2 : (ab x == 9223372036854775808) = false := beq_eq_false_iff_ne.mpr h2
          rw [c2]; rfl
      · rw [a1]
        by_cases h2 : ab x = 9223372036854775808
        · have c2 : (ab x == 9223372036854775808) = true := by rw [h2]; rfl
          rw [c2, if_neg (by omega)]; rfl
        · have c2 : (ab x == 9223372036854775808) = false := beq_eq_false_iff_ne.mpr h2
          rw [c2, if_pos (by omega), a3, wi64_id (n := x) (by omega) (by omega)]; rfl
  · rw [if_neg h, if_neg (by rcases ab_cases x with ⟨c1, c2⟩ | ⟨c1, c2⟩ <;> omega)]
    rfl


end Go.Proofs.Ytifnooogklfifaa.NatL
