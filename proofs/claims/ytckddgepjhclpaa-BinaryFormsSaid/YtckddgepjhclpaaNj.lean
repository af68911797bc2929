-- Plain laws of the row law08: BinaryActs.
import Derived.Test.YtckddgepjhclpaaNi
import Derived.KernelRfl
namespace Go.Proofs.Ytckddgepjhclpaa.NatL
open Go Go.Proofs.Ytckddgepjhclpaa.Ev
set_option linter.unusedVariables false
set_option linter.unusedSimpArgs false

/-- Is a number's magnitude at most this? -/
def Bd (x X : Int) : Prop := -X ≤ x ∧ x ≤ X
theorem Bd.mul {x y X Y : Int} (hx : Bd x X) (hy : Bd y Y) : Bd (x * y) (X * Y) := by
  obtain ⟨h1, h2⟩ := hx
  obtain ⟨h3, h4⟩ := hy
  have p1 := Int.mul_nonneg (show 0 ≤ X - x by omega) (show 0 ≤ Y - y by omega)
  have p2 := Int.mul_nonneg (show 0 ≤ X + x by omega) (show 0 ≤ Y + y by omega)
  have p3 := Int.mul_nonneg (show 0 ≤ X - x by omega) (show 0 ≤ Y + y by omega)
  have p4 := Int.mul_nonneg (show 0 ≤ X + x by omega) (show 0 ≤ Y - y by omega)
  have e1 : (X - x) * (Y - y) + (X + x) * (Y + y) = 2 * (X * Y) + 2 * (x * y) := by grind
  have e2 : (X - x) * (Y + y) + (X + x) * (Y - y) = 2 * (X * Y) - 2 * (x * y) := by grind
  unfold Bd
  omega
theorem Bd.add {x y X Y : Int} (hx : Bd x X) (hy : Bd y Y) : Bd (x + y) (X + Y) := by
  unfold Bd at *; omega
theorem K_huge : 1000000000000000000000000000000000000000000000000000000000000 < K := by unfold K; decide +kernel
theorem Bd.sm {x X : Int} (h : Bd x X) (hX : X ≤ 1000000000000000000000000000000000000000000000000000000000000) : Sm x := by
  have := K_huge
  unfold Bd at h
  unfold Sm
  rcases ab_cases x with ⟨_, e⟩ | ⟨_, e⟩ <;> omega
theorem W64.bd {n : Int} (h : W64 n) : Bd n 9223372036854775808 := by unfold W64 at h; unfold Bd; omega

/- A product of three -/
theorem term_step {N : Nat} (hN : 1000000001 < N) (n : Nat) {R : Type} (l : List Int) (i : Nat) (hi : i < l.length) (hl : l.length ≤ 1000) (q : Bool) (p : Int) (hp : Sm p) (hw : W64 (l.getD i 0)) (hs : Sm (p * l.getD i 0)) (K0 : Bool → Bool → List Int → Option R) :
    binary_term.l3 N (n + 1) l (l.length : Int) (i : Int) q (sg p) (enc (4294967296 : Int) (ab p)) K0 = binary_term.l3 N n l (l.length : Int) ((i + 1 : Nat) : Int) q (sg (p * l.getD i 0)) (enc (4294967296 : Int) (ab (p * l.getD i 0))) K0 := by
  rw [binary_term.l3]
  have e0 : decide ((i : Int) < (l.length : Int)) = true := decide_eq_true (by omega)
  have e1 : (decide (0 ≤ (i : Int)) && decide ((i : Int) < (l.length : Int))) = true := by simp; omega
  have e2 : (i : Int).toNat = i := by omega
  have e3 : wi64 ((i : Int) + 1) = ((i + 1 : Nat) : Int) := by rw [wi64_id (by omega) (by omega)]; omega
  rw [e1, e0, e2, e3, zof hN hw]
  simp only [cond_true, Option.bind_some]
  rw [zmul hN hp hw.sm hs]
  rfl

theorem term_model {N : Nat} (hN : 1000000001 < N) {a b c : Int} (ha : W64 a) (hb : W64 b) (hc : W64 c) : binary_term.f N [a, b, c] = some (sg (a * b * c), enc (4294967296 : Int) (ab (a * b * c))) := by
  have w1 : W64 1 := by unfold W64; omega
  have p1 : Bd (1 * a) 9223372036854775808 := by rw [Int.one_mul]; exact ha.bd
  have p2 := p1.mul hb.bd
  have p3 := p2.mul hc.bd
  unfold binary_term.f
  rw [zof hN w1]
  simp only [Option.bind_some]
  obtain ⟨n, rfl⟩ : ∃ m, N = m + 4 := ⟨N - 4, by omega⟩
  have s1 := term_step hN (n + 3) [a, b, c] 0 (by simp) (by simp) false 1 w1.sm ha (p1.sm (by decide)) (fun y14 y15 y16 => some (y15, y16))
  have s2 := term_step hN (n + 2) [a, b, c] 1 (by simp) (by simp) false (1 * a) (p1.sm (by decide)) hb (p2.sm (by decide)) (fun y14 y15 y16 => some (y15, y16))
  have s3 := term_step hN (n + 1) [a, b, c] 2 (by simp) (by simp) false (1 * a * b) (p2.sm (by decide)) hc (p3.sm (by decide)) (fun y14 y15 y16 => some (y15, y16))
  have hz : ((0 : Nat) : Int) = 0 := rfl
  rw [hz] at s1
  refine s1.trans (s2.trans (s3.trans ?_))
  rw [binary_term.l3]
  have e0 : decide (((2 + 1 : Nat) : Int) < ([a, b, c].length : Int)) = false := by simp
  rw [e0]
  simp only [cond_false]
  have : 1 * a * b * [a, b, c].getD 2 0 = a * b * c := by simp
  rw [this]

/-- A sum of products, if it may be. -/
def cf (s : Int) : Int × Bool := if -9223372036854775808 ≤ s ∧ s < 9223372036854775808 then (s, decide (s ≤ 1073741824) && decide (s ≥ -1073741824)) else (0, false)

theorem cf_end (N : Nat) (x : Int) : ((zint_Int_Int64.f N (sg x) (enc (4294967296 : Int) (ab x))).bind fun r10 =>
  bif r10.2 then
    bif decide (r10.1 ≤ 1073741824) then
      some (r10.1, decide (r10.1 ≥ (-1073741824)))
    else
    some (r10.1, false)
  else
  some (r10.1, false)) = some (cf x) := by
  rw [zint64]
  unfold as64 cf
  by_cases h : -9223372036854775808 ≤ x ∧ x < 9223372036854775808
  · rw [if_pos h, if_pos h]
    by_cases h2 : x ≤ 1073741824
    · simp [h2]
    · simp [h2]
  · rw [if_neg h, if_neg h]; rfl

theorem zero_parts : sg 0 = false ∧ enc (4294967296 : Int) (ab 0) = [] := ⟨rfl, enc_zero B2⟩

theorem coefficient3 {N : Nat} (hN : 1000000001 < N) {x y z X : Int} (hx : Bd x X) (hy : Bd y X) (hz : Bd z X) (hX : X ≤ 1000000000000000000000000000000000000000000000000000000000) (X0 : 0 ≤ X) : binary_coefficient3.f N (sg x) (enc (4294967296 : Int) (ab x)) (sg y) (enc (4294967296 : Int) (ab y)) (sg z) (enc (4294967296 : Int) (ab z)) = some (cf (x + y + z)) := by
  unfold binary_coefficient3.f
  have b0 : Bd 0 0 := by unfold Bd; omega
  have a1 := zadd hN (x := 0) (y := x) (b0.sm (by decide)) (hx.sm (by omega)) (by rw [Int.zero_add]; exact hx.sm (by omega))
  rw [zero_parts.1, zero_parts.2, Int.zero_add] at a1
  rw [a1]
  simp only [Option.bind_some]
  rw [zadd hN (hx.sm (by omega)) (hy.sm (by omega)) ((hx.add hy).sm (by omega))]
  simp only [Option.bind_some]
  rw [zadd hN ((hx.add hy).sm (by omega)) (hz.sm (by omega)) (((hx.add hy).add hz).sm (by omega))]
  simp only [Option.bind_some]
  exact cf_end N _

theorem coefficient4 {N : Nat} (hN : 1000000001 < N) {x y z w X : Int} (hx : Bd x X) (hy : Bd y X) (hz : Bd z X) (hw : Bd w X) (hX : X ≤ 1000000000000000000000000000000000000000000000000000000000) (X0 : 0 ≤ X) : binary_coefficient4.f N (sg x) (enc (4294967296 : Int) (ab x)) (sg y) (enc (4294967296 : Int) (ab y)) (sg z) (enc (4294967296 : Int) (ab z)) (sg w) (enc (4294967296 : Int) (ab w)) = some (cf (x + y + z + w)) := by
  unfold binary_coefficient4.f
  have b0 : Bd 0 0 := by unfold Bd; omega
  have a1 := zadd hN (x := 0) (y := x) (b0.sm (by decide)) (hx.sm (by omega)) (by rw [Int.zero_add]; exact hx.sm (by omega))
  rw [zero_parts.1, zero_parts.2, Int.zero_add] at a1
  rw [a1]
  simp only [Option.bind_some]
  rw [zadd hN (hx.sm (by omega)) (hy.sm (by omega)) ((hx.add hy).sm (by omega))]
  simp only [Option.bind_some]
  rw [zadd hN ((hx.add hy).sm (by omega)) (hz.sm (by omega)) (((hx.add hy).add hz).sm (by omega))]
  simp only [Option.bind_some]
  rw [zadd hN (((hx.add hy).add hz).sm (by omega)) (hw.sm (by omega)) ((((hx.add hy).add hz).add hw).sm (by omega))]
  simp only [Option.bind_some]
  exact cf_end N _

/- The document's sums -/
theorem sum_step {N : Nat} (hN : 1000000001 < N) (n : Nat) {R : Type} (l : List Int) (i : Nat) (hi : i < l.length / 3) (hl : l.length ≤ 1000) (s k a b : Int) (hk : l.getD (i * 3) 0 = k) (ha : l.getD (i * 3 + 1) 0 = a) (hb : l.getD (i * 3 + 2) 0 = b) (wk : W64 k) (wa : W64 a) (wb : W64 b) (hs : Sm s) (hs2 : Sm (s + k * (a * b))) (K0 : Bool → List Int → Option R) :
    parquetref08_sum.l3 N (n + 1) l (i : Int) (sg s) (enc (65536 : Int) (ab s)) K0 = parquetref08_sum.l3 N n l ((i + 1 : Nat) : Int) (sg (s + k * (a * b))) (enc (65536 : Int) (ab (s + k * (a * b)))) K0 := by
  rw [parquetref08_sum.l3]
  have e0 : decide ((i : Int) < (l.length / 3 : Int)) = true := decide_eq_true (by omega)
  have e1 : (decide (0 ≤ (i : Int)) && decide ((i : Int) < (l.length / 3 : Int))) = true := by simp; omega
  have e2 : (i : Int).toNat = i := by omega
  have e3 : wi64 ((i : Int) + 1) = ((i + 1 : Nat) : Int) := by rw [wi64_id (by omega) (by omega)]; omega
  have p1 := wa.bd.mul wb.bd
  have p2 := wk.bd.mul p1
  rw [e1, e0, e2, e3, hk, ha, hb, rof hN wk, rof hN wa, rof hN wb]
  simp only [cond_true, Option.bind_some]
  rw [rmul hN wa.sm wb.sm (p1.sm (by decide))]
  simp only [Option.bind_some]
  rw [rmul hN wk.sm (p1.sm (by decide)) (p2.sm (by decide))]
  simp only [Option.bind_some]
  rw [radd hN hs (p2.sm (by decide)) hs2]
  rfl

theorem small_model (N : Nat) (x : Int) : parquetref08_small.f N x = some (decide (x ≤ 1073741824) && decide (x ≥ -1073741824)) := by
  unfold parquetref08_small.f
  by_cases h1 : x ≥ -1073741824 <;> by_cases h2 : x ≤ 1073741824 <;> simp [h1, h2]

theorem sum_end {N : Nat} (hN : 1000000001 < N) {x : Int} (hx : Sm x) : ((parquetref02_Int64.f N (sg x) (enc (65536 : Int) (ab x))).bind fun r16 =>
      bif r16.2 then
        (parquetref08_small.f N r16.1).bind fun r17 =>
        some (r16.1, r17)
      else
      some (r16.1, false)) = some (cf x) := by
  rw [rint64 hN hx]
  unfold as64 cf
  by_cases h : -9223372036854775808 ≤ x ∧ x < 9223372036854775808
  · rw [if_pos h, if_pos h]
    simp only [Option.bind_some, cond_true, small_model]
  · rw [if_neg h, if_neg h]; rfl

theorem sum3 {N : Nat} (hN : 1000000001 < N) {a b c d e f g h i : Int} (wa : W64 a) (wb : W64 b) (wc : W64 c) (wd : W64 d) (we : W64 e) (wf : W64 f) (wg : W64 g) (wh : W64 h) (wi : W64 i) :
    parquetref08_sum.f N [a, b, c, d, e, f, g, h, i] = some (cf (a * (b * c) + d * (e * f) + g * (h * i))) := by
  unfold parquetref08_sum.f
  have q1 := wa.bd.mul (wb.bd.mul wc.bd)
  have q2 := wd.bd.mul (we.bd.mul wf.bd)
  have q3 := wg.bd.mul (wh.bd.mul wi.bd)
  have b0 : Bd 0 0 := by unfold Bd; omega
  have s0 : Sm 0 := b0.sm (by decide)
  have t1 : Bd (0 + a * (b * c)) _ := b0.add q1
  have t2 := t1.add q2
  have t3 := t2.add q3
  obtain ⟨n, rfl⟩ : ∃ m, N = m + 4 := ⟨N - 4, by omega⟩
  let K0 : Bool → List Int → Option (Int × Bool) := fun y14 y15 => (parquetref02_Int64.f (n + 4) y14 y15).bind fun r16 => bif r16.2 then (parquetref08_small.f (n + 4) r16.1).bind fun r17 => some (r16.1, r17) else some (r16.1, false)
  have u1 := sum_step hN (n + 3) [a, b, c, d, e, f, g, h, i] 0 (by simp) (by simp) 0 a b c rfl rfl rfl wa wb wc s0 (t1.sm (by decide)) K0
  have u2 := sum_step hN (n + 2) [a, b, c, d, e, f, g, h, i] 1 (by simp) (by simp) (0 + a * (b * c)) d e f rfl rfl rfl wd we wf (t1.sm (by decide)) (t2.sm (by decide)) K0
  have u3 := sum_step hN (n + 1) [a, b, c, d, e, f, g, h, i] 2 (by simp) (by simp) (0 + a * (b * c) + d * (e * f)) g h i rfl rfl rfl wg wh wi (t2.sm (by decide)) (t3.sm (by decide)) K0
  rw [zero_parts.1, show enc (65536 : Int) (ab 0) = [] from enc_zero H2] at u1
  refine u1.trans (u2.trans (u3.trans ?_))
  rw [parquetref08_sum.l3]
  have e0 : decide (((2 + 1 : Nat) : Int) < ([a, b, c, d, e, f, g, h, i].length / 3 : Int)) = false := by simp
  rw [e0]
  simp only [cond_false, K0]
  rw [sum_end hN (t3.sm (by decide)), Int.zero_add]

theorem sum4 {N : Nat} (hN : 1000000001 < N) {a b c d e f g h i j k l : Int} (wa : W64 a) (wb : W64 b) (wc : W64 c) (wd : W64 d) (we : W64 e) (wf : W64 f) (wg : W64 g) (wh : W64 h) (wi : W64 i) (wj : W64 j) (wk : W64 k) (wl : W64 l) :
    parquetref08_sum.f N [a, b, c, d, e, f, g, h, i, j, k, l] = some (cf (a * (b * c) + d * (e * f) + g * (h * i) + j * (k * l))) := by
  unfold parquetref08_sum.f
  have q1 := wa.bd.mul (wb.bd.mul wc.bd)
  have q2 := wd.bd.mul (we.bd.mul wf.bd)
  have q3 := wg.bd.mul (wh.bd.mul wi.bd)
  have q4 := wj.bd.mul (wk.bd.mul wl.bd)
  have b0 : Bd 0 0 := by unfold Bd; omega
  have s0 : Sm 0 := b0.sm (by decide)
  have t1 : Bd (0 + a * (b * c)) _ := b0.add q1
  have t2 := t1.add q2
  have t3 := t2.add q3
  have t4 := t3.add q4
  obtain ⟨n, rfl⟩ : ∃ m, N = m + 5 := ⟨N - 5, by omega⟩
  let K0 : Bool → List Int → Option (Int × Bool) := fun y14 y15 => (parquetref02_Int64.f (n + 5) y14 y15).bind fun r16 => bif r16.2 then (parquetref08_small.f (n + 5) r16.1).bind fun r17 => some (r16.1, r17) else some (r16.1, false)
  have u1 := sum_step hN (n + 4) [a, b, c, d, e, f, g, h, i, j, k, l] 0 (by simp) (by simp) 0 a b c rfl rfl rfl wa wb wc s0 (t1.sm (by decide)) K0
  have u2 := sum_step hN (n + 3) [a, b, c, d, e, f, g, h, i, j, k, l] 1 (by simp) (by simp) (0 + a * (b * c)) d e f rfl rfl rfl wd we wf (t1.sm (by decide)) (t2.sm (by decide)) K0
  have u3 := sum_step hN (n + 2) [a, b, c, d, e, f, g, h, i, j, k, l] 2 (by simp) (by simp) (0 + a * (b * c) + d * (e * f)) g h i rfl rfl rfl wg wh wi (t2.sm (by decide)) (t3.sm (by decide)) K0
  have u4 := sum_step hN (n + 1) [a, b, c, d, e, f, g, h, i, j, k, l] 3 (by simp) (by simp) (0 + a * (b * c) + d * (e * f) + g * (h * i)) j k l rfl rfl rfl wj wk wl (t3.sm (by decide)) (t4.sm (by decide)) K0
  rw [zero_parts.1, show enc (65536 : Int) (ab 0) = [] from enc_zero H2] at u1
  refine u1.trans (u2.trans (u3.trans (u4.trans ?_)))
  rw [parquetref08_sum.l3]
  have e0 : decide (((3 + 1 : Nat) : Int) < ([a, b, c, d, e, f, g, h, i, j, k, l].length / 3 : Int)) = false := by simp
  rw [e0]
  simp only [cond_false, K0]
  rw [sum_end hN (t4.sm (by decide)), Int.zero_add]

/- What a form must be. -/
def inB (a b c : Int) : Prop := (-1073741824 ≤ a ∧ a ≤ 1073741824) ∧ (-1073741824 ≤ b ∧ b ≤ 1073741824) ∧ (-1073741824 ≤ c ∧ c ≤ 1073741824)
instance (a b c : Int) : Decidable (inB a b c) := inferInstanceAs (Decidable (_ ∧ _))

theorem within_model (N : Nat) (a b c : Int) : binary_within.f N a b c = some (decide (inB a b c)) := by
  unfold binary_within.f mx2 mn2
  have key : ∀ {x : Bool} {p : Prop} [Decidable p], (x = true ↔ p) → x = decide p := fun {x p _} hp => by
    by_cases h : p
    · simp [h, hp.mpr h]
    · simp only [h, decide_false]; cases x <;> simp_all
  cases hc : decide ((if c > (if b > a then b else a) then c else (if b > a then b else a)) ≤ 1073741824)
  · simp only [cond_false, Option.some.injEq]
    have hc := of_decide_eq_false hc
    refine key ⟨fun h => by simp at h, fun h => ?_⟩
    unfold inB at h
    exfalso; split at hc <;> split at hc <;> omega
  · simp only [cond_true, Option.some.injEq]
    have hc := of_decide_eq_true hc
    refine key ⟨fun h => ?_, fun h => ?_⟩
    · have h := of_decide_eq_true h
      unfold inB
      split at hc <;> split at hc <;> split at h <;> split at h <;> omega
    · unfold inB at h
      refine decide_eq_true ?_
      split <;> split <;> omega

theorem in_model (N : Nat) (a b c : Int) : parquetref08_In.f N a b c = some (decide (inB a b c)) := by
  unfold parquetref08_In.f parquetref08_small.f inB
  by_cases h1 : a ≥ -1073741824 <;> by_cases h2 : a ≤ 1073741824 <;> by_cases h3 : b ≥ -1073741824 <;> by_cases h4 : b ≤ 1073741824 <;> by_cases h5 : c ≥ -1073741824 <;> by_cases h6 : c ≤ 1073741824 <;> simp [h1, h2, h3, h4, h5, h6]

/-- A form under a turn, or the refusal. -/
def act (a b c p q r s : Int) : Int × Int × Int × Int :=
  if inB a b c ∧ (cf (a * p * p + b * p * r + c * r * r)).2 = true ∧ (cf (a * q * q + b * q * s + c * s * s)).2 = true ∧ (cf (2 * a * p * q + b * p * s + b * q * r + 2 * c * r * s)).2 = true then
    ((cf (a * p * p + b * p * r + c * r * r)).1, (cf (2 * a * p * q + b * p * s + b * q * r + 2 * c * r * s)).1, (cf (a * q * q + b * q * s + c * s * s)).1, 0)
  else (0, 0, 0, 3)

theorem act_model {N : Nat} (hN : 1000000001 < N) (a b c p q r s : Int) (wp : W64 p) (wq : W64 q) (wr : W64 r) (ws : W64 s) : binary_Act.f N a b c p q r s = some (act a b c p q r s) ∧ parquetref08_Act.f N a b c p q r s = some (act a b c p q r s) := by
  unfold binary_Act.f parquetref08_Act.f act
  rw [within_model, in_model]
  simp only [Option.bind_some]
  by_cases hin : inB a b c
  · have hin' := hin
    obtain ⟨⟨a0, a1⟩, ⟨b0, b1⟩, c0, c1⟩ := hin'
    have wa : W64 a := by unfold W64; omega
    have wb : W64 b := by unfold W64; omega
    have wc : W64 c := by unfold W64; omega
    have wa2 : W64 (2 * a) := by unfold W64; omega
    have wc2 : W64 (2 * c) := by unfold W64; omega
    have e2a : wi64 (2 * a) = 2 * a := wi64_id (by omega) (by omega)
    have e2c : wi64 (2 * c) = 2 * c := wi64_id (by omega) (by omega)
    have bb : ∀ {x y z : Int}, W64 x → W64 y → W64 z → Bd (x * y * z) (9223372036854775808 * 9223372036854775808 * 9223372036854775808) := fun hx hy hz => (hx.bd.mul hy.bd).mul hz.bd
    have v1 : binary_Act_1.f N p r a b c = some ((cf (a * p * p + b * p * r + c * r * r)).1, (cf (a * p * p + b * p * r + c * r * r)).2, a, b, c) := by
      unfold binary_Act_1.f
      rw [term_model hN wa wp wp, term_model hN wb wp wr, term_model hN wc wr wr]
      simp only [Option.bind_some]
      rw [coefficient3 hN (bb wa wp wp) (bb wb wp wr) (bb wc wr wr) (by decide) (by decide)]
      rfl
    have v2 : binary_Act_1.f N q s a b c = some ((cf (a * q * q + b * q * s + c * s * s)).1, (cf (a * q * q + b * q * s + c * s * s)).2, a, b, c) := by
      unfold binary_Act_1.f
      rw [term_model hN wa wq wq, term_model hN wb wq ws, term_model hN wc ws ws]
      simp only [Option.bind_some]
      rw [coefficient3 hN (bb wa wq wq) (bb wb wq ws) (bb wc ws ws) (by decide) (by decide)]
      rfl
    rw [decide_eq_true hin, v1]
    simp only [Bool.not_true, cond_false, Option.bind_some]
    rw [v2]
    simp only [Option.bind_some, e2a, e2c]
    rw [term_model hN wa2 wp wq, term_model hN wb wp ws, term_model hN wb wq wr, term_model hN wc2 wr ws]
    simp only [Option.bind_some]
    rw [coefficient4 hN (bb wa2 wp wq) (bb wb wp ws) (bb wb wq wr) (bb wc2 wr ws) (by decide) (by decide)]
    rw [sum3 hN wa wp wp wb wp wr wc wr wr, sum4 hN wa2 wp wq wb wp ws wb wq wr wc2 wr ws, sum3 hN wa wq wq wb wq ws wc ws ws]
    simp only [Option.bind_some]
    have f1 : a * (p * p) + b * (p * r) + c * (r * r) = a * p * p + b * p * r + c * r * r := by grind
    have f2 : 2 * a * (p * q) + b * (p * s) + b * (q * r) + 2 * c * (r * s) = 2 * a * p * q + b * p * s + b * q * r + 2 * c * r * s := by grind
    have f3 : a * (q * q) + b * (q * s) + c * (s * s) = a * q * q + b * q * s + c * s * s := by grind
    rw [f1, f2, f3]
    cases h1 : (cf (a * p * p + b * p * r + c * r * r)).2 <;> cases h2 : (cf (a * q * q + b * q * s + c * s * s)).2 <;> cases h3 : (cf (2 * a * p * q + b * p * s + b * q * r + 2 * c * r * s)).2 <;> simp [hin]
  · simp [hin]

theorem wakes_true : parquetlaw08_wakes.f 8589934700 = some true := by kernel_rfl

theorem wf_i64 {n : Int} (h : (Lit.int .i64 n).wf = true) : W64 n := by
  simp [Lit.wf, IntKind.min, IntKind.max, IntKind.bits, IntKind.signed] at h
  unfold W64
  omega

end Go.Proofs.Ytckddgepjhclpaa.NatL
namespace Go.Proofs.Ytckddgepjhclpaa.Pure
open Go Go.Proofs.Ytckddgepjhclpaa.Ev
open Go.Proofs.Ytckddgepjhclpaa.NatL
set_option linter.unusedVariables false

theorem BinaryActs (a1 a2 a3 b1 b2 b3 b4 : Int) (w1 : (Lit.int .i64 a1).wf = true) (w2 : (Lit.int .i64 a2).wf = true) (w3 : (Lit.int .i64 a3).wf = true) (v1 : (Lit.int .i64 b1).wf = true) (v2 : (Lit.int .i64 b2).wf = true) (v3 : (Lit.int .i64 b3).wf = true) (v4 : (Lit.int .i64 b4).wf = true) : ∃ N, parquetlaw08_BinaryActs.f N a1 a2 a3 b1 b2 b3 b4 = some true := by
  refine ⟨8589934700, ?_⟩
  have hN : 1000000001 < 8589934700 := by decide
  have hw := wakes_true
  generalize 8589934700 = N at *
  obtain ⟨h1, h2⟩ := act_model hN a1 a2 a3 b1 b2 b3 b4 (wf_i64 v1) (wf_i64 v2) (wf_i64 v3) (wf_i64 v4)
  unfold parquetlaw08_BinaryActs.f
  rw [h1, h2, hw]
  simp

end Go.Proofs.Ytckddgepjhclpaa.Pure
