-- Plain laws of the row law01: NatRing and NatBack.
import Derived.Test.YtifnooogklfifaaNe
import Derived.KernelRfl
namespace Go.Proofs.Ytifnooogklfifaa.NatL
open Go Go.Proofs.Ytifnooogklfifaa.Ev
set_option linter.unusedVariables false
set_option linter.unusedSimpArgs false

theorem K_pos : 0 < K := by unfold K; exact Int.pow_pos (by decide)
theorem K_big : 18446744073709551616 < K := by unfold K; decide +kernel

/-- What comes out: the number, or nought, and the code. -/
def ov (x : Int) : Int := if x < K then x else 0
def oe (x : Int) : Int := if x < K then 0 else 3
structure Rg (x : Int) : Prop where
  lo : 0 ≤ x
  hi : x < K
theorem Rg.ov {x : Int} (h : 0 ≤ x) : Rg (ov x) := by
  unfold NatL.ov; have := K_pos
  split
  · exact ⟨h, by assumption⟩
  · exact ⟨Int.le_refl _, by omega⟩
theorem out_eq (x : Int) : out x = (enc (4294967296 : Int) (ov x), oe x) := by
  unfold out ov oe
  by_cases h : x < K
  · rw [if_pos h, if_pos h, if_pos h]
  · rw [if_neg h, if_neg h, if_neg h, enc_zero B2]
theorem add' {N : Nat} (hN : 1000000001 < N) {u v : Int} (hu : Rg u) (hv : Rg v) : nat_Add.f N (enc (4294967296 : Int) u) (enc (4294967296 : Int) v) = some (enc (4294967296 : Int) (ov (u + v)), oe (u + v)) := by
  rw [add_enc hN hu.lo hu.hi hv.lo hv.hi, out_eq]
theorem mul' {N : Nat} (hN : 1000000001 < N) {u v : Int} (hu : Rg u) (hv : Rg v) : nat_Mul.f N (enc (4294967296 : Int) u) (enc (4294967296 : Int) v) = some (enc (4294967296 : Int) (ov (u * v)), oe (u * v)) := by
  rw [mul_enc hN hu.lo hu.hi hv.lo hv.hi, out_eq]
theorem cmp' {N : Nat} (hN : 1000000001 < N) {u v : Int} (hu : Rg u) (hv : Rg v) : nat_Cmp.f N (enc (4294967296 : Int) u) (enc (4294967296 : Int) v) = some (cmp u v) := cmp_enc hN hu.lo hu.hi hv.lo
theorem cmp_self (u : Int) : cmp u u = 0 := by unfold cmp; simp
theorem oe_zero (x : Int) : (oe x == 0) = decide (x < K) := by unfold oe; by_cases h : x < K <;> simp [h]
theorem oe_nz (x : Int) : (oe x != 0) = !decide (x < K) := by unfold oe; by_cases h : x < K <;> simp [h]

/-- A number as a machine's. -/
theorem u64_model (N : Nat) {v : Int} (h0 : 0 ≤ v) : nat_Nat_Uint64.f N (enc (4294967296 : Int) v) = some (if v < 18446744073709551616 then (v, true) else (0, false)) := by
  obtain ⟨h1, h2⟩ := enc_spec B2 h0
  generalize enc (4294967296 : Int) v = l at *
  unfold nat_Nat_Uint64.f
  match l, h1, h2 with
  | [], h1, h2 =>
    simp only [nv] at h2
    subst h2; rfl
  | [x], h1, h2 =>
    have hx := h1.dig.head
    simp only [nv] at h2
    have : x = v := by omega
    subst this
    simp [wu64_id (n := x) (by omega) (by omega)]
    omega
  | [x, y], h1, h2 =>
    have hx := h1.dig.head
    have hy := h1.dig.tail.head
    simp only [nv] at h2
    have p32 : (2 : Int) ^ 32 = 4294967296 := by decide
    simp
    rw [wu64_id (n := x) (by omega) (by omega), wu64_id (n := y) (by omega) (by omega), wu64_id (n := y * 4294967296) (by omega) (by omega), or_shift hy.1 hy.2 hx.1 hx.2]
    rw [if_pos (by omega)]
    congr 1
    omega
  | x :: y :: z :: l, h1, h2 =>
    have hlow := h1.lower (by decide) (by simp)
    have hp : (4294967296 : Int) ^ 2 ≤ (4294967296 : Int) ^ ((x :: y :: z :: l).length - 1) := pow_mono (by simp)
    have e : (4294967296 : Int) ^ 2 = 18446744073709551616 := by decide
    rw [if_neg (by omega)]
    have c0 : (((x :: y :: z :: l).length : Int) == 0) = false := by simp; omega
    have c1 : (((x :: y :: z :: l).length : Int) == 1) = false := by simp; omega
    have c2 : (((x :: y :: z :: l).length : Int) == 2) = false := by simp; omega
    rw [c0, c1, c2]; rfl

theorem wf_u64 {n : Int} (h : (Lit.int .u64 n).wf = true) : 0 ≤ n ∧ n < 18446744073709551616 := by
  simp [Lit.wf, IntKind.min, IntKind.max, IntKind.bits, IntKind.signed] at h
  omega


end Go.Proofs.Ytifnooogklfifaa.NatL
