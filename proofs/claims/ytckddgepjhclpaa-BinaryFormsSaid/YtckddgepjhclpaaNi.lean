-- Plain laws of the row law08: whole numbers by sign and digits, the program's and the document's.
import Derived.Test.YtckddgepjhclpaaNf
import Derived.Test.YtckddgepjhclpaaNh
import Derived.Test.YtckddgepjhclpaaT4
namespace Go.Proofs.Ytckddgepjhclpaa.NatL
open Go Go.Proofs.Ytckddgepjhclpaa.Ev
set_option linter.unusedVariables false
set_option linter.unusedSimpArgs false

/-- A number without its sign. -/
def ab (x : Int) : Int := if x < 0 then -x else x
theorem ab_nonneg (x : Int) : 0 ≤ ab x := by unfold ab; split <;> omega
theorem ab_cases (x : Int) : (0 ≤ x ∧ ab x = x) ∨ (x < 0 ∧ ab x = -x) := by unfold ab; split <;> omega
theorem ab_mul (x y : Int) : ab (x * y) = ab x * ab y := by
  rcases ab_cases x with ⟨h, e⟩ | ⟨h, e⟩ <;> rcases ab_cases y with ⟨k, f⟩ | ⟨k, f⟩ <;> rw [e, f]
  · have := Int.mul_nonneg h k
    rcases ab_cases (x * y) with ⟨_, g⟩ | ⟨_, g⟩ <;> omega
  · have := Int.mul_nonneg h (show 0 ≤ -y by omega)
    have e1 : x * -y = -(x * y) := by grind
    rcases ab_cases (x * y) with ⟨_, g⟩ | ⟨_, g⟩ <;> omega
  · have := Int.mul_nonneg (show 0 ≤ -x by omega) k
    have e1 : -x * y = -(x * y) := by grind
    rcases ab_cases (x * y) with ⟨_, g⟩ | ⟨_, g⟩ <;> omega
  · have := Int.mul_nonneg (show 0 ≤ -x by omega) (show 0 ≤ -y by omega)
    have e1 : -x * -y = x * y := by grind
    rcases ab_cases (x * y) with ⟨_, g⟩ | ⟨_, g⟩ <;> omega

def sg (x : Int) : Bool := decide (x < 0)
theorem sg_cases (x : Int) : (x < 0 ∧ sg x = true) ∨ (0 ≤ x ∧ sg x = false) := by
  unfold sg
  by_cases h : x < 0
  · exact .inl ⟨h, decide_eq_true h⟩
  · exact .inr ⟨by omega, decide_eq_false h⟩

/-- Small enough for all that is reckoned here. -/
def Sm (x : Int) : Prop := ab x < K
theorem Sm.rg {x : Int} (h : Sm x) : Rg (ab x) := ⟨ab_nonneg x, h⟩

theorem blen_pos_iff {v : Int} (h : 0 ≤ v) : 0 < blen v ↔ 0 < v := by
  have hz := blen_le h 0
  have e0 : (2 : Int) ^ 0 = 1 := rfl
  rw [e0] at hz
  have := blen_nonneg v
  constructor
  · intro q
    rcases Int.lt_or_le 0 v with p | p
    · exact p
    · have := hz.mpr (by omega); omega
  · intro q
    rcases Int.lt_or_le 0 (blen v) with p | p
    · exact p
    · have := hz.mp (by omega); omega

theorem make_model (N : Nat) {v : Int} (b : Bool) (h : Rg v) : zint_Make.f N b (enc (4294967296 : Int) v) = some (b && decide (0 < v), enc (4294967296 : Int) v) := by
  obtain ⟨h1, h2⟩ := enc_spec B2 h.lo
  have hl := enc_len128 h.lo h.hi
  unfold zint_Make.f
  rw [bits_model N h1 (by omega), h2]
  cases b
  · rfl
  · have : decide (blen v > 0) = decide (0 < v) := decide_eq_decide.mpr (blen_pos_iff h.lo)
    simp [this]

theorem rmake_model {N : Nat} (hN : 1000000001 < N) {v : Int} (b : Bool) (h0 : 0 ≤ v) (hl : (enc (65536 : Int) v).length ≤ 1000000) : parquetref02_Make.f N b (enc (65536 : Int) v) = some (b && decide (0 < v), enc (65536 : Int) v) := by
  unfold parquetref02_Make.f
  rw [rbits_enc hN h0 (by omega)]
  simp only [Option.bind_some]
  have hb := blen_pos_iff h0
  have hn := blen_nonneg v
  by_cases hv : v = 0
  · subst hv
    have : (blen 0 == 0) = true := by simp; omega
    rw [this, enc_zero H2]
    simp
  · have c : (blen v == 0) = false := by
      have := hb.mpr (by omega)
      simp; omega
    have d : decide (0 < v) = true := decide_eq_true (by omega)
    rw [c, d]; simp

theorem encH256 {x : Int} (h : Sm x) : (enc (65536 : Int) (ab x)).length ≤ 256 := encH_len (ab_nonneg x) (by rw [← K_H]; exact h)

/- Sums -/
theorem zadd {N : Nat} (hN : 1000000001 < N) {x y : Int} (hx : Sm x) (hy : Sm y) (hs : Sm (x + y)) : zint_Add.f N (sg x) (enc (4294967296 : Int) (ab x)) (sg y) (enc (4294967296 : Int) (ab y)) = some (sg (x + y), enc (4294967296 : Int) (ab (x + y)), 0) := by
  unfold zint_Add.f
  have hx0 := ab_nonneg x
  have hy0 := ab_nonneg y
  have rx := hx.rg
  have ry := hy.rg
  have rs := hs.rg
  by_cases hsg : sg x = sg y
  · have c : (sg x == sg y) = true := by simpa using hsg
    have hab : ab x + ab y = ab (x + y) := by
      rcases sg_cases x with ⟨p, q⟩ | ⟨p, q⟩ <;> rcases sg_cases y with ⟨p', q'⟩ | ⟨p', q'⟩ <;> rcases ab_cases x with ⟨_, e⟩ | ⟨_, e⟩ <;> rcases ab_cases y with ⟨_, f⟩ | ⟨_, f⟩ <;> rcases ab_cases (x + y) with ⟨_, g⟩ | ⟨_, g⟩ <;> first | omega | (rw [q, q'] at hsg; cases hsg)
    have e1 : ov (ab x + ab y) = ab (x + y) := by unfold ov; rw [hab, if_pos rs.hi]
    have e2 : oe (ab x + ab y) = 0 := by unfold oe; rw [hab, if_pos rs.hi]
    rw [c, add' hN rx ry, e1, e2]
    simp only [cond_true, Option.bind_some]
    rw [make_model N _ rs]
    simp only [Option.bind_some]
    congr 2
    rcases sg_cases x with ⟨p, q⟩ | ⟨p, q⟩ <;> rcases sg_cases (x + y) with ⟨p', q'⟩ | ⟨p', q'⟩ <;> rw [q, q']
    · have : 0 < ab (x + y) := by rcases ab_cases (x + y) with ⟨_, g⟩ | ⟨_, g⟩ <;> omega
      simp [this]
    · exfalso
      rcases sg_cases y with ⟨p2, q2⟩ | ⟨p2, q2⟩
      · omega
      · rw [q, q2] at hsg; cases hsg
    · exfalso
      rcases sg_cases y with ⟨p2, q2⟩ | ⟨p2, q2⟩
      · rw [q, q2] at hsg; cases hsg
      · omega
    · rfl
  · have c : (sg x == sg y) = false := by simpa using hsg
    rw [c, cmp' hN rx ry]
    simp only [cond_false, Option.bind_some]
    have hc : decide (cmp (ab x) (ab y) < 0) = decide (ab x < ab y) := by
      unfold cmp
      by_cases h1 : ab x = ab y
      · rw [h1]; simp
      · by_cases h2 : ab x < ab y <;> simp [h1, h2]
    rw [hc]
    have fin : ∀ u v : Int, (sg u ≠ sg v) → u + v = x + y → ab v ≤ ab u → Rg (ab u) → ((nat_Sub.f N (enc (4294967296 : Int) (ab u)) (enc (4294967296 : Int) (ab v))).bind fun r8 => (zint_Make.f N (sg u) r8.1).bind fun r9 => some (r9.1, r9.2, r8.2)) = some (sg (x + y), enc (4294967296 : Int) (ab (x + y)), 0) := by
      intro u v huv hsum hle ru
      have hv0 := ab_nonneg v
      have hd : ab u - ab v = ab (x + y) := by
        rw [← hsum]
        rcases sg_cases u with ⟨p, q⟩ | ⟨p, q⟩ <;> rcases sg_cases v with ⟨p', q'⟩ | ⟨p', q'⟩ <;> rcases ab_cases u with ⟨_, e⟩ | ⟨_, e⟩ <;> rcases ab_cases v with ⟨_, f⟩ | ⟨_, f⟩ <;> rcases ab_cases (u + v) with ⟨_, g⟩ | ⟨_, g⟩ <;> first | omega | (rw [q, q'] at huv; exact absurd rfl huv)
      rw [sub_enc hN ru.lo ru.hi hv0, if_neg (by omega), hd]
      simp only [Option.bind_some]
      rw [make_model N _ rs]
      simp only [Option.bind_some]
      congr 2
      rcases sg_cases u with ⟨p, q⟩ | ⟨p, q⟩ <;> rcases sg_cases (x + y) with ⟨p', q'⟩ | ⟨p', q'⟩ <;> rw [q, q']
      · have : 0 < ab (x + y) := by rcases ab_cases (x + y) with ⟨_, g⟩ | ⟨_, g⟩ <;> omega
        simp [this]
      · have : ¬ 0 < ab (x + y) := by
          rw [← hd]
          rcases sg_cases v with ⟨p2, q2⟩ | ⟨p2, q2⟩
          · rw [q, q2] at huv; exact absurd rfl huv
          · rcases ab_cases u with ⟨_, e⟩ | ⟨_, e⟩ <;> rcases ab_cases v with ⟨_, f⟩ | ⟨_, f⟩ <;> omega
        simp [this]
      · exfalso
        rcases sg_cases v with ⟨p2, q2⟩ | ⟨p2, q2⟩
        · rcases ab_cases u with ⟨_, e⟩ | ⟨_, e⟩ <;> rcases ab_cases v with ⟨_, f⟩ | ⟨_, f⟩ <;> omega
        · rw [q, q2] at huv; exact absurd rfl huv
      · rfl
    by_cases hlt : ab x < ab y
    · rw [decide_eq_true hlt]
      exact fin y x (fun h => hsg h.symm) (by omega) (by omega) ry
    · rw [decide_eq_false hlt]
      exact fin x y hsg rfl (by omega) rx

theorem radd {N : Nat} (hN : 1000000001 < N) {x y : Int} (hx : Sm x) (hy : Sm y) (hs : Sm (x + y)) : parquetref02_Add.f N (sg x) (enc (65536 : Int) (ab x)) (sg y) (enc (65536 : Int) (ab y)) = some (sg (x + y), enc (65536 : Int) (ab (x + y))) := by
  unfold parquetref02_Add.f
  have hx0 := ab_nonneg x
  have hy0 := ab_nonneg y
  have lx := encH256 hx
  have ly := encH256 hy
  have ls := encH256 hs
  have rs := hs.rg
  by_cases hsg : sg x = sg y
  · have c : (sg x == sg y) = true := by simpa using hsg
    have hab : ab x + ab y = ab (x + y) := by
      rcases sg_cases x with ⟨p, q⟩ | ⟨p, q⟩ <;> rcases sg_cases y with ⟨p', q'⟩ | ⟨p', q'⟩ <;> rcases ab_cases x with ⟨_, e⟩ | ⟨_, e⟩ <;> rcases ab_cases y with ⟨_, f⟩ | ⟨_, f⟩ <;> rcases ab_cases (x + y) with ⟨_, g⟩ | ⟨_, g⟩ <;> first | omega | (rw [q, q'] at hsg; cases hsg)
    rw [c, radd_enc hN hx0 hy0 (by omega) (by omega), hab]
    simp only [cond_true, Option.bind_some]
    rw [rmake_model hN _ (ab_nonneg _) (by omega)]
    simp only [Option.bind_some]
    congr 2
    rcases sg_cases x with ⟨p, q⟩ | ⟨p, q⟩ <;> rcases sg_cases (x + y) with ⟨p', q'⟩ | ⟨p', q'⟩ <;> rw [q, q']
    · have : 0 < ab (x + y) := by rcases ab_cases (x + y) with ⟨_, g⟩ | ⟨_, g⟩ <;> omega
      simp [this]
    · exfalso
      rcases sg_cases y with ⟨p2, q2⟩ | ⟨p2, q2⟩
      · omega
      · rw [q, q2] at hsg; cases hsg
    · exfalso
      rcases sg_cases y with ⟨p2, q2⟩ | ⟨p2, q2⟩
      · rw [q, q2] at hsg; cases hsg
      · omega
    · rfl
  · have c : (sg x == sg y) = false := by simpa using hsg
    rw [c, rcmp_enc hN hx0 hy0 (by omega)]
    simp only [cond_false, Option.bind_some]
    have hc : decide (cmp (ab x) (ab y) ≥ 0) = decide (ab y ≤ ab x) := by
      unfold cmp
      by_cases h1 : ab x = ab y
      · rw [h1]; simp
      · by_cases h2 : ab x < ab y
        · have h3 : ¬ ab y ≤ ab x := by omega
          simp [h1, h2]
        · have h3 : ab y ≤ ab x := by omega
          simp [h1, h2, h3]
    rw [hc]
    have fin : ∀ u v : Int, (sg u ≠ sg v) → u + v = x + y → ab v ≤ ab u → (enc (65536 : Int) (ab u)).length ≤ 256 → ((parquetref01_Sub.f N (enc (65536 : Int) (ab u)) (enc (65536 : Int) (ab v))).bind fun r8 => (parquetref02_Make.f N (sg u) r8).bind fun r9 => some (r9.1, r9.2)) = some (sg (x + y), enc (65536 : Int) (ab (x + y))) := by
      intro u v huv hsum hle lu
      have hv0 := ab_nonneg v
      have hd : ab u - ab v = ab (x + y) := by
        rw [← hsum]
        rcases sg_cases u with ⟨p, q⟩ | ⟨p, q⟩ <;> rcases sg_cases v with ⟨p', q'⟩ | ⟨p', q'⟩ <;> rcases ab_cases u with ⟨_, e⟩ | ⟨_, e⟩ <;> rcases ab_cases v with ⟨_, f⟩ | ⟨_, f⟩ <;> rcases ab_cases (u + v) with ⟨_, g⟩ | ⟨_, g⟩ <;> first | omega | (rw [q, q'] at huv; exact absurd rfl huv)
      rw [rsub_enc hN hv0 hle (by omega), hd]
      simp only [Option.bind_some]
      rw [rmake_model hN _ (ab_nonneg _) (by omega)]
      simp only [Option.bind_some]
      congr 2
      rcases sg_cases u with ⟨p, q⟩ | ⟨p, q⟩ <;> rcases sg_cases (x + y) with ⟨p', q'⟩ | ⟨p', q'⟩ <;> rw [q, q']
      · have : 0 < ab (x + y) := by rcases ab_cases (x + y) with ⟨_, g⟩ | ⟨_, g⟩ <;> omega
        simp [this]
      · have : ¬ 0 < ab (x + y) := by
          rw [← hd]
          rcases sg_cases v with ⟨p2, q2⟩ | ⟨p2, q2⟩
          · rw [q, q2] at huv; exact absurd rfl huv
          · rcases ab_cases u with ⟨_, e⟩ | ⟨_, e⟩ <;> rcases ab_cases v with ⟨_, f⟩ | ⟨_, f⟩ <;> omega
        simp [this]
      · exfalso
        rcases sg_cases v with ⟨p2, q2⟩ | ⟨p2, q2⟩
        · rcases ab_cases u with ⟨_, e⟩ | ⟨_, e⟩ <;> rcases ab_cases v with ⟨_, f⟩ | ⟨_, f⟩ <;> omega
        · rw [q, q2] at huv; exact absurd rfl huv
      · rfl
    by_cases hlt : ab y ≤ ab x
    · rw [decide_eq_true hlt]
      exact fin x y hsg rfl hlt lx
    · rw [decide_eq_false hlt]
      exact fin y x (fun h => hsg h.symm) (by omega) (by omega) ly

/- Products -/
theorem sg_mul (x y : Int) : (!(sg x == sg y) && decide (0 < ab (x * y))) = sg (x * y) := by
  rcases sg_cases x with ⟨p, q⟩ | ⟨p, q⟩ <;> rcases sg_cases y with ⟨p', q'⟩ | ⟨p', q'⟩ <;> rw [q, q']
  · have := Int.mul_nonneg (show 0 ≤ -x by omega) (show 0 ≤ -y by omega)
    have e1 : -x * -y = x * y := by grind
    unfold sg; simp; omega
  · have := Int.mul_nonneg (show 0 ≤ -x by omega) p'
    have e1 : -x * y = -(x * y) := by grind
    unfold sg
    have : decide (0 < ab (x * y)) = decide (x * y < 0) := decide_eq_decide.mpr (by rcases ab_cases (x * y) with ⟨_, g⟩ | ⟨_, g⟩ <;> omega)
    simp [this]
  · have := Int.mul_nonneg p (show 0 ≤ -y by omega)
    have e1 : x * -y = -(x * y) := by grind
    unfold sg
    have : decide (0 < ab (x * y)) = decide (x * y < 0) := decide_eq_decide.mpr (by rcases ab_cases (x * y) with ⟨_, g⟩ | ⟨_, g⟩ <;> omega)
    simp [this]
  · have := Int.mul_nonneg p p'
    unfold sg; simp; omega

theorem zmul {N : Nat} (hN : 1000000001 < N) {x y : Int} (hx : Sm x) (hy : Sm y) (hs : Sm (x * y)) : zint_Mul.f N (sg x) (enc (4294967296 : Int) (ab x)) (sg y) (enc (4294967296 : Int) (ab y)) = some (sg (x * y), enc (4294967296 : Int) (ab (x * y)), 0) := by
  unfold zint_Mul.f
  have rs := hs.rg
  have e1 : ov (ab x * ab y) = ab (x * y) := by unfold ov; rw [← ab_mul, if_pos rs.hi]
  have e2 : oe (ab x * ab y) = 0 := by unfold oe; rw [← ab_mul, if_pos rs.hi]
  rw [mul' hN hx.rg hy.rg, e1, e2]
  simp only [Option.bind_some]
  rw [make_model N _ rs, sg_mul]
  rfl

theorem rmul {N : Nat} (hN : 1000000001 < N) {x y : Int} (hx : Sm x) (hy : Sm y) (hs : Sm (x * y)) : parquetref02_Mul.f N (sg x) (enc (65536 : Int) (ab x)) (sg y) (enc (65536 : Int) (ab y)) = some (sg (x * y), enc (65536 : Int) (ab (x * y))) := by
  unfold parquetref02_Mul.f
  have lx := encH256 hx
  have ly := encH256 hy
  have ls := encH256 hs
  rw [rmul_enc hN (ab_nonneg x) (ab_nonneg y) (by omega) (by omega), ← ab_mul]
  simp only [Option.bind_some]
  rw [rmake_model hN _ (ab_nonneg _) (by omega), sg_mul]
  rfl

/- Words -/
def W64 (n : Int) : Prop := -9223372036854775808 ≤ n ∧ n < 9223372036854775808

theorem W64.sm {n : Int} (h : W64 n) : Sm n := by
  have := K_big
  unfold W64 at h
  unfold Sm
  rcases ab_cases n with ⟨_, e⟩ | ⟨_, e⟩ <;> omega

theorem word_neg {n : Int} (h : W64 n) (hn : n < 0) : wu64 (0 - (wu64 n)) = -n := by
  unfold W64 at h
  rw [wu64_mod, wu64_mod]; omega

theorem zof {N : Nat} (hN : 1000000001 < N) {n : Int} (h : W64 n) : zint_Of.f N n = some (sg n, enc (4294967296 : Int) (ab n)) := by
  have h' := h
  unfold W64 at h'
  unfold zint_Of.f
  by_cases hn : n < 0
  · rw [decide_eq_true hn, word_neg h hn, of_model hN (by omega) (by omega)]
    have e1 : ab n = -n := by rcases ab_cases n with ⟨_, e⟩ | ⟨_, e⟩ <;> omega
    have e2 : sg n = true := decide_eq_true hn
    rw [e1, e2]; rfl
  · rw [decide_eq_false hn, wu64_id (n := n) (by omega) (by omega)]
    simp only [cond_false]
    rw [of_model hN (by omega) (by omega)]
    have e1 : ab n = n := by rcases ab_cases n with ⟨_, e⟩ | ⟨_, e⟩ <;> omega
    have e2 : sg n = false := decide_eq_false hn
    rw [e1, e2]; rfl

theorem rof {N : Nat} (hN : 1000000001 < N) {n : Int} (h : W64 n) : parquetref02_Of.f N n = some (sg n, enc (65536 : Int) (ab n)) := by
  have h' := h
  have hl := encH256 h.sm
  unfold W64 at h'
  unfold parquetref02_Of.f
  by_cases hn : n < 0
  · have e1 : ab n = -n := by rcases ab_cases n with ⟨_, e⟩ | ⟨_, e⟩ <;> omega
    have e2 : sg n = true := decide_eq_true hn
    rw [e1] at hl
    rw [decide_eq_true hn, word_neg h hn, rof_model hN (by omega) (by omega)]
    simp only [cond_true, Option.bind_some]
    rw [rmake_model hN _ (by omega) (by omega), decide_eq_true (show 0 < -n by omega), e1, e2]; rfl
  · have e1 : ab n = n := by rcases ab_cases n with ⟨_, e⟩ | ⟨_, e⟩ <;> omega
    have e2 : sg n = false := decide_eq_false hn
    rw [e1] at hl
    rw [decide_eq_false hn, wu64_id (n := n) (by omega) (by omega)]
    simp only [cond_false]
    rw [rof_model hN (by omega) (by omega)]
    simp only [Option.bind_some]
    rw [rmake_model hN _ (by omega) (by omega), e1, e2]; rfl

/-- A number as a machine's, if it is one. -/
def as64 (x : Int) : Int × Bool := if -9223372036854775808 ≤ x ∧ x < 9223372036854775808 then (x, true) else (0, false)

theorem neg_word {v : Int} (h0 : 0 ≤ v) (h1 : v ≤ 9223372036854775808) : wi64 (wu64 (0 - v)) = -v := by
  rw [wu64_mod]
  simp only [wi64, IntKind.wrap]
  simp [IntKind.bits, IntKind.signed]
  omega

theorem zint64 (N : Nat) (x : Int) : zint_Int_Int64.f N (sg x) (enc (4294967296 : Int) (ab x)) = some (as64 x) := by
  unfold zint_Int_Int64.f as64
  have h0 := ab_nonneg x
  rw [u64_model N h0]
  simp only [Option.bind_some]
  by_cases h1 : ab x < 18446744073709551616
  · rw [if_pos h1]
    simp only [Bool.not_true, cond_false]
    by_cases h2 : ab x > 9223372036854775808
    · have : ¬ (-9223372036854775808 ≤ x ∧ x < 9223372036854775808) := by rcases ab_cases x with ⟨_, e⟩ | ⟨_, e⟩ <;> omega
      rw [decide_eq_true h2, if_neg this]; rfl
    · rw [decide_eq_false h2]
      simp only [cond_false]
      rcases sg_cases x with ⟨p, q⟩ | ⟨p, q⟩
      · have e : ab x = -x := by rcases ab_cases x with ⟨_, e⟩ | ⟨_, e⟩ <;> omega
        have hin : -9223372036854775808 ≤ x ∧ x < 9223372036854775808 := by omega
        have hneg := neg_word h0 (by omega)
        rw [q, if_pos hin, hneg, e]
        have : - -x = x := by omega
        rw [this]
        cases hb : (-x == 9223372036854775808) <;> rfl
      · have e : ab x = x := by rcases ab_cases x with ⟨_, e⟩ | ⟨_, e⟩ <;> omega
        rw [q, e]
        by_cases h3 : x = 9223372036854775808
        · have c : (x == 9223372036854775808) = true := by simpa using h3
          rw [c, if_neg (by omega)]; rfl
        · have c : (x == 9223372036854775808) = false := by simpa using h3
          rw [c, if_pos (by omega), wi64_id (n := x) (by omega) (by omega)]; rfl
  · have : ¬ (-9223372036854775808 ≤ x ∧ x < 9223372036854775808) := by rcases ab_cases x with ⟨_, e⟩ | ⟨_, e⟩ <;> omega
    rw [if_neg h1, if_neg this]; rfl

theorem rint64 {N : Nat} (hN : 1000000001 < N) {x : Int} (hx : Sm x) : parquetref02_Int64.f N (sg x) (enc (65536 : Int) (ab x)) = some (as64 x) := by
  unfold parquetref02_Int64.f as64
  have h0 := ab_nonneg x
  have hl := encH256 hx
  have hsign : parquetref02_Sign.f N (sg x) (enc (65536 : Int) (ab x)) = some (if ab x = 0 then 0 else if sg x then -1 else 1) := by
    unfold parquetref02_Sign.f
    rw [rbits_enc hN h0 (by omega)]
    simp only [Option.bind_some]
    have hb := blen_pos_iff h0
    have hn := blen_nonneg (ab x)
    by_cases hv : ab x = 0
    · have : (blen (ab x) == 0) = true := by simp; omega
      rw [this, if_pos hv]; rfl
    · have c : (blen (ab x) == 0) = false := by
        have := hb.mpr (by omega)
        simp; omega
      rw [c, if_neg hv]
      cases sg x <;> rfl
  rw [rsmall_enc hN h0, hsign]
  simp only [Option.bind_some]
  by_cases h1 : ab x < 18446744073709551616
  · rw [if_pos h1]
    simp only [Bool.not_true, cond_false]
    by_cases h2 : ab x > 9223372036854775808
    · have : ¬ (-9223372036854775808 ≤ x ∧ x < 9223372036854775808) := by rcases ab_cases x with ⟨_, e⟩ | ⟨_, e⟩ <;> omega
      rw [decide_eq_true h2, if_neg this]; rfl
    · rw [decide_eq_false h2]
      simp only [cond_false]
      rcases sg_cases x with ⟨p, q⟩ | ⟨p, q⟩
      · have e : ab x = -x := by rcases ab_cases x with ⟨_, e⟩ | ⟨_, e⟩ <;> omega
        have hin : -9223372036854775808 ≤ x ∧ x < 9223372036854775808 := by omega
        have hneg := neg_word h0 (by omega)
        have hnz : ¬ ab x = 0 := by omega
        rw [q, if_pos hin, hneg, if_neg hnz, e]
        have : - -x = x := by omega
        rw [this]
        cases hb : (-x == 9223372036854775808) <;> rfl
      · have e : ab x = x := by rcases ab_cases x with ⟨_, e⟩ | ⟨_, e⟩ <;> omega
        have hdec : decide ((if ab x = 0 then (0 : Int) else if (false : Bool) = true then -1 else 1) < 0) = false := by split <;> simp
        rw [q, hdec, e]
        by_cases h3 : x = 9223372036854775808
        · have c : (x == 9223372036854775808) = true := by simpa using h3
          rw [c, if_neg (by omega)]; rfl
        · have c : (x == 9223372036854775808) = false := by simpa using h3
          rw [c, if_pos (by omega), wi64_id (n := x) (by omega) (by omega)]; rfl
  · have : ¬ (-9223372036854775808 ≤ x ∧ x < 9223372036854775808) := by rcases ab_cases x with ⟨_, e⟩ | ⟨_, e⟩ <;> omega
    rw [if_neg h1, if_neg this]; rfl

end Go.Proofs.Ytckddgepjhclpaa.NatL
