-- Plain laws of the row law01: Root, and NatReckons.
import Derived.Test.YtnjlpjdncejfcaaPo
import Derived.Test.YtnjlpjdncejfcaaPk
namespace Go.Proofs.Ytnjlpjdncejfcaa.Pure
open Go Go.Proofs.Ytnjlpjdncejfcaa.Ev
set_option linter.unusedVariables false
set_option linter.unusedSimpArgs false

theorem beyond2 (N : Nat) (s t : ByteArray) : ∃ b, parquetlaw01_beyond2.f N s t = some b ∧ (b = false → s.size ≤ 16384 ∧ t.size ≤ 16384) := by
  unfold parquetlaw01_beyond2.f
  by_cases h1 : (s.size : Int) > 16384
  · exact ⟨true, by simp [h1], by simp⟩
  · by_cases h2 : (t.size : Int) > 16384
    · exact ⟨true, by simp [h1, h2], by simp⟩
    · exact ⟨false, by simp [h1, h2], fun _ => ⟨by omega, by omega⟩⟩

/-- What a root is: the greatest number whose square is not above. -/
structure IsRt (v x : Int) : Prop where
  lo : 0 ≤ x
  le : x * x ≤ v
  lt : v < (x + 1) * (x + 1)

theorem sq_mono {a b : Int} (h0 : 0 ≤ a) (h : a ≤ b) : a * a ≤ b * b := by
  have h1 := Int.mul_le_mul_of_nonneg_left h h0
  have h2 := Int.mul_le_mul_of_nonneg_right h (show 0 ≤ b by omega)
  omega
theorem sq_lt {a b : Int} (h0 : 0 ≤ b) (h : a * a < b * b) : a < b := by
  rcases Int.lt_or_le a b with h1 | h1
  · exact h1
  · have := sq_mono h0 h1; omega

theorem IsRt.unique {v x y : Int} (h : IsRt v x) (k : IsRt v y) : x = y := by
  have a := sq_lt (a := x) (b := y + 1) (by have := k.lo; omega) (by have := h.le; have := k.lt; omega)
  have b := sq_lt (a := y) (b := x + 1) (by have := h.lo; omega) (by have := k.le; have := h.lt; omega)
  omega

theorem rt_nat : ∀ n : Nat, ∃ s, IsRt (n : Int) s := by
  intro n
  induction n with
  | zero => exact ⟨0, ⟨by decide, by decide, by decide⟩⟩
  | succ n ih =>
    obtain ⟨s, h0, h1, h2⟩ := ih
    by_cases h : ((n + 1 : Nat) : Int) < (s + 1) * (s + 1)
    · exact ⟨s, ⟨h0, by omega, h⟩⟩
    · refine ⟨s + 1, ⟨by omega, by omega, ?_⟩⟩
      have : (s + 1 + 1) * (s + 1 + 1) = (s + 1) * (s + 1) + 2 * (s + 1) + 1 := by grind
      omega
theorem rt_exists {v : Int} (h : 0 ≤ v) : ∃ s, IsRt v s := by
  obtain ⟨n, rfl⟩ := Int.eq_ofNat_of_zero_le h
  exact rt_nat n

open Classical in
/-- The root of a number from 0 on. -/
noncomputable def rt (v : Int) : Int := if h : ∃ s, IsRt v s then Classical.choose h else 0
theorem rt_spec {v : Int} (h : 0 ≤ v) : IsRt v (rt v) := by
  unfold rt
  rw [dif_pos (rt_exists h)]
  exact Classical.choose_spec (rt_exists h)
theorem rt_eq {v x : Int} (h : IsRt v x) : x = rt v := by
  have : 0 ≤ v := by have := Int.mul_nonneg h.lo h.lo; have := h.le; omega
  exact h.unique (rt_spec this)
theorem IsRt.small {v x : Int} (h : IsRt v x) : x ≤ v := by
  by_cases h1 : x ≤ 0
  · have := Int.mul_nonneg h.lo h.lo; have := h.le; omega
  · have := Int.mul_le_mul_of_nonneg_right (show 1 ≤ x by omega) h.lo; have := h.le; omega
theorem rt_rg {v : Int} (h : Rg v) : Rg (rt v) := by
  have r := rt_spec h.lo
  exact ⟨r.lo, by have := r.small; have := h.hi; omega⟩

theorem room2 : (2 : Int) * 2 ^ 2048 + 2 < K := by unfold K; decide +kernel

/-- One turn of the root's search. -/
theorem newton {v x : Int} (h0 : 0 < v) (hx : 0 < x) (hv : v < (x + 1) * (x + 1)) :
    (x ≤ (x + v / x) / 2 → IsRt v x) ∧ 0 < (x + v / x) / 2 ∧ v < ((x + v / x) / 2 + 1) * ((x + v / x) / 2 + 1) ∧ 0 ≤ v / x ∧ v / x ≤ x + 2 := by
  have d1 := Int.mul_ediv_add_emod v x
  have d2 := Int.emod_nonneg v (show x ≠ 0 by omega)
  have d3 := Int.emod_lt_of_pos v hx
  have q0 : 0 ≤ v / x := Int.ediv_nonneg (Int.le_of_lt h0) (Int.le_of_lt hx)
  have q1 : v / x ≤ x + 2 := by
    rcases Int.lt_or_le (x + 2) (v / x) with h | h
    · have m := Int.mul_le_mul_of_nonneg_left (show x + 3 ≤ v / x by omega) (Int.le_of_lt hx)
      have e : (x + 1) * (x + 1) = x * (x + 3) - x + 1 := by grind
      omega
    · exact h
  generalize v % x = r at *
  generalize v / x = q at *
  have y1 : 2 * ((x + q) / 2) + 2 ≥ x + q + 1 := by omega
  have lt : v < ((x + q) / 2 + 1) * ((x + q) / 2 + 1) := by
    have s1 := sq_mono (a := x + q + 1) (b := 2 * ((x + q) / 2) + 2) (by omega) (by omega)
    generalize (x + q) / 2 = y at *
    have e1 : (2 * y + 2) * (2 * y + 2) = 4 * ((y + 1) * (y + 1)) := by grind
    have e2 : (x + q + 1) * (x + q + 1) = 4 * (x * (q + 1)) + (x - q - 1) * (x - q - 1) := by grind
    have e3 : 0 ≤ (x - q - 1) * (x - q - 1) := by
      rcases Int.le_total 0 (x - q - 1) with h | h
      · exact Int.mul_nonneg h h
      · exact Int.mul_nonneg_of_nonpos_of_nonpos h h
    have e4 : x * (q + 1) = x * q + x := by grind
    omega
  refine ⟨fun h => ⟨by omega, ?_, hv⟩, ?_, lt, q0, q1⟩
  · have : x ≤ q := by omega
    have := Int.mul_le_mul_of_nonneg_left this (Int.le_of_lt hx)
    omega
  · rcases Int.lt_or_le 0 ((x + q) / 2) with h | h
    · exact h
    · have : (x + q) / 2 = 0 := by omega
      rw [this] at lt
      omega

/-- Each turn halves the way to the root. -/
theorem newton_half {v x s : Int} (h0 : 0 < v) (hs : IsRt v s) (hx : s < x) : 2 * ((x + v / x) / 2 - s) ≤ x - s := by
  have hs0 := hs.lo
  have hx0 : 0 < x := by omega
  have q1 : v / x ≤ s := by
    have := (Int.ediv_lt_iff_lt_mul hx0 (a := v) (b := s + 1)).mpr (by
      have m := Int.mul_le_mul_of_nonneg_left (show s + 1 ≤ x by omega) (show 0 ≤ s + 1 by omega)
      have := hs.lt
      omega)
    omega
  omega

theorem root_loop {N : Nat} (hN : 1000000001 < N) {R : Type} {v s : Int} (hv : Rg v) (h0 : 0 < v) (hs : IsRt v s) (Kr : List Int → Option R) : ∀ (k n : Nat) (x : Int), 0 < x → x ≤ 2 ^ 2048 → v < (x + 1) * (x + 1) → x - s < 2 ^ k → k + 1 ≤ n →
    nat_Root.l4 N n (enc (4294967296 : Int) v) (enc (4294967296 : Int) x) Kr = Kr (enc (4294967296 : Int) s) := by
  intro k
  induction k with
  | zero =>
    intro n x x0 x1 x2 x3 hn
    obtain ⟨n', rfl⟩ : ∃ n', n = n' + 1 := ⟨n - 1, by omega⟩
    have hrm := room2
    generalize (2 : Int) ^ 2048 = P at *
    have hx : Rg x := ⟨by omega, by omega⟩
    obtain ⟨w1, w2, w3, w4, w5⟩ := newton h0 x0 x2
    have hq : Rg (v / x) := ⟨w4, by omega⟩
    have hle := sq_lt (a := s) (b := x + 1) (by omega) (by have := hs.le; omega)
    have hxs : x = s := by simp at x3; omega
    subst hxs
    have hk : x + v / x < K := by omega
    rw [nat_Root.l4, div_model hN hv hx, if_neg (by omega)]
    simp only [Option.bind_some]
    rw [add' hN hx hq]
    simp only [Option.bind_some]
    have ho : ov (x + v / x) = x + v / x := if_pos hk
    rw [ho, shr_model hN ⟨by omega, hk⟩ (by decide) (by decide)]
    simp only [Option.bind_some]
    have e2 : (2 : Int) ^ (1 : Int).toNat = 2 := by decide
    rw [e2, cmp_enc hN (by omega) (by omega) hx.lo]
    simp only [Option.bind_some]
    have hge : x ≤ (x + v / x) / 2 := by
      have := (Int.le_ediv_iff_mul_le x0 (a := x) (b := v)).mpr hs.le
      omega
    have c : decide (cmp ((x + v / x) / 2) x ≥ 0) = true := by
      unfold cmp
      split
      · rfl
      · rw [if_neg (by omega)]; rfl
    rw [c]; rfl
  | succ k ih =>
    intro n x x0 x1 x2 x3 hn
    obtain ⟨n', rfl⟩ : ∃ n', n = n' + 1 := ⟨n - 1, by omega⟩
    have hrm := room2
    have x1' := x1
    generalize (2 : Int) ^ 2048 = P at hrm x1
    have hx : Rg x := ⟨by omega, by omega⟩
    obtain ⟨w1, w2, w3, w4, w5⟩ := newton h0 x0 x2
    have hq : Rg (v / x) := ⟨w4, by omega⟩
    have hle := sq_lt (a := s) (b := x + 1) (by omega) (by have := hs.le; omega)
    have hk : x + v / x < K := by omega
    rw [nat_Root.l4, div_model hN hv hx, if_neg (by omega)]
    simp only [Option.bind_some]
    rw [add' hN hx hq]
    simp only [Option.bind_some]
    have ho : ov (x + v / x) = x + v / x := if_pos hk
    rw [ho, shr_model hN ⟨by omega, hk⟩ (by decide) (by decide)]
    simp only [Option.bind_some]
    have e2 : (2 : Int) ^ (1 : Int).toNat = 2 := by decide
    rw [e2, cmp_enc hN (by omega) (by omega) hx.lo]
    simp only [Option.bind_some]
    by_cases hge : x ≤ (x + v / x) / 2
    · have c : decide (cmp ((x + v / x) / 2) x ≥ 0) = true := by
        unfold cmp
        split
        · rfl
        · rw [if_neg (by omega)]; rfl
      rw [c, (w1 hge).unique hs]; rfl
    · have c : decide (cmp ((x + v / x) / 2) x ≥ 0) = false := by
        unfold cmp
        rw [if_neg (by omega), if_pos (by omega)]; rfl
      have hsx : s < x := by
        rcases Int.lt_or_le s x with h | h
        · exact h
        · exfalso
          have hxs : x = s := by omega
          subst hxs
          have := (Int.le_ediv_iff_mul_le x0 (a := x) (b := v)).mpr hs.le
          omega
      have hh := newton_half h0 hs hsx
      rw [c]
      simp only [cond_false]
      have hp : (2 : Int) ^ (k + 1) = 2 * 2 ^ k := by rw [Int.pow_succ]; omega
      exact ih n' _ w2 (by omega) w3 (by omega) (by omega)

theorem blen_K {v : Int} (h : Rg v) : blen v ≤ 4096 := blen_bound h.lo 4096 (by have := h.hi; unfold K at this; exact this)

theorem p2K {n : Nat} (h : n < 4096) : (2 : Int) ^ n < K := by
  unfold K
  have h1 := p2_mono (show n + 1 ≤ 4096 by omega)
  have h2 : (2 : Int) ^ (n + 1) = 2 * 2 ^ n := by rw [Int.pow_succ]; omega
  have := p2_pos n
  omega

theorem root_model {N : Nat} (hN : 1000000001 < N) {v : Int} (hv : Rg v) : nat_Root.f N (enc (4294967296 : Int) v) = some (enc (4294967296 : Int) (rt v)) := by
  unfold nat_Root.f
  by_cases hz : v = 0
  · subst hz
    rw [enc_zero B2]
    have : rt 0 = 0 := (rt_eq ⟨by decide, by decide, by decide⟩).symm
    rw [this, enc_zero B2]
    rfl
  · have hv0 := hv.lo
    have hne : enc (4294967296 : Int) v ≠ [] := fun h => hz ((enc_nil B2 hv0).mp h)
    have hlen : 0 < (enc (4294967296 : Int) v).length := List.length_pos_iff.mpr hne
    have c0 : (((enc (4294967296 : Int) v).length : Int) == 0) = false := by simp; omega
    obtain ⟨cv, ev⟩ := enc_spec B2 hv0
    have lv := enc_len128 hv0 hv.hi
    have hb := blen_K hv
    have hb0 := blen_nonneg v
    have hbit := bits_model N cv (by omega)
    rw [ev] at hbit
    rw [c0, of_model hN (by decide) (by decide), hbit]
    simp only [cond_false, Option.bind_some]
    obtain ⟨b, hbe⟩ : ∃ b : Nat, blen v = b := ⟨(blen v).toNat, by omega⟩
    rw [hbe] at hb
    have hvb : v < 2 ^ b := (blen_le hv0 b).mp (by omega)
    have w1 : wi64 ((b : Int) + 1) = (b : Int) + 1 := wi64_id (by omega) (by omega)
    have w2 : Int.tdiv ((b : Int) + 1) 2 = (((b + 1) / 2 : Nat) : Int) := by rw [tdiv_nn (by omega)]; omega
    rw [hbe, w1, w2, wi64_id (by omega) (by omega)]
    generalize hm : (b + 1) / 2 = m
    have hm1 : m ≤ 2048 := by omega
    have hmK := p2K (n := m) (by omega)
    rw [shl_model hN ⟨by decide, by have := K_big; omega⟩ (by omega) (by omega), if_neg (by decide)]
    have t1 : ((m : Nat) : Int).toNat = m := by omega
    rw [t1, Int.one_mul, if_pos hmK]
    simp only [Option.bind_some]
    have hs := rt_spec hv0
    have hp := p2_pos m
    have hsq : (2 : Int) ^ b ≤ 2 ^ m * 2 ^ m := by rw [← Int.pow_add]; exact p2_mono (by omega)
    have e3 : ((2 : Int) ^ m + 1) * (2 ^ m + 1) = 2 ^ m * 2 ^ m + 2 * 2 ^ m + 1 := by grind
    exact root_loop hN hv (by omega) hs _ m N (2 ^ m) hp (p2_mono hm1) (by omega) (by have := hs.lo; have : rt v ≠ 0 := fun h => (by have := hs.lt; rw [h] at this; omega); omega) (by omega)

/-- The reference's search, bit by bit. -/
theorem rroot_loop {N : Nat} (hN : 1000000001 < N) {R : Type} {v : Int} (hv : Rg v) (K0 : List Int → Option R) : ∀ (j n : Nat) (x : Int), j ≤ 4000 → 0 ≤ x → x * x ≤ v → v < (x + 2 ^ j) * (x + 2 ^ j) → j < n →
    parquetref01_Root.l3 N n (enc (65536 : Int) v) (enc (65536 : Int) x) ((j : Int) - 1) K0 = K0 (enc (65536 : Int) (rt v)) := by
  intro j
  induction j with
  | zero =>
    intro n x hj x0 x1 x2 hn
    obtain ⟨n', rfl⟩ : ∃ n', n = n' + 1 := ⟨n - 1, by omega⟩
    rw [parquetref01_Root.l3]
    have c : decide (((0 : Nat) : Int) - 1 ≥ 0) = false := by decide
    rw [c, ← rt_eq ⟨x0, x1, by simpa using x2⟩]
    rfl
  | succ j ih =>
    intro n x hj x0 x1 x2 hn
    obtain ⟨n', rfl⟩ : ∃ n', n = n' + 1 := ⟨n - 1, by omega⟩
    have e1 : (((j + 1 : Nat) : Int) - 1) = (j : Int) := by omega
    have c : decide ((j : Int) ≥ 0) = true := decide_eq_true (by omega)
    have hvK := hv.hi
    have hxv : x ≤ v := by
      by_cases h1 : x ≤ 0
      · have := Int.mul_nonneg x0 x0; omega
      · have := Int.mul_le_mul_of_nonneg_right (show 1 ≤ x by omega) x0; omega
    have hp := p2_pos j
    have hpK := p2K (n := j) (by omega)
    have l1 : (enc (65536 : Int) 1).length ≤ 256 := encH_len (by decide) (by rw [← K_H]; have := K_big; omega)
    have lx : (enc (65536 : Int) x).length ≤ 256 := encH_len x0 (by rw [← K_H]; omega)
    have lp : (enc (65536 : Int) (2 ^ j)).length ≤ 256 := encH_len (Int.le_of_lt hp) (by rw [← K_H]; omega)
    have ly : (enc (65536 : Int) (x + 2 ^ j)).length ≤ 257 := encH_len (by omega) (by rw [Int.pow_succ, ← K_H]; omega)
    have lyy := encH_len_mul (u := x + 2 ^ j) (v := x + 2 ^ j) (by omega) (by omega)
    have shl := (rshl_enc hN (v := 1) (by decide) (by omega) (n := (j : Int)) (by omega) (by omega)).1
    have t1 : ((j : Nat) : Int).toNat = j := by omega
    rw [t1, Int.one_mul] at shl
    rw [parquetref01_Root.l3, e1, c, rof_model hN (by decide) (by decide)]
    simp only [cond_true, Option.bind_some]
    rw [shl]
    simp only [Option.bind_some]
    rw [radd_enc hN x0 (Int.le_of_lt hp) (by omega) (by omega)]
    simp only [Option.bind_some]
    rw [rmul_enc hN (by omega) (by omega) (by omega) (by omega)]
    simp only [Option.bind_some]
    rw [rcmp_enc hN (Int.mul_nonneg (by omega) (by omega)) hv.lo (by omega)]
    simp only [Option.bind_some]
    rw [wi64_id (by omega) (by omega)]
    have hq : (2 : Int) ^ (j + 1) = 2 * 2 ^ j := by rw [Int.pow_succ]; omega
    by_cases hle : (x + 2 ^ j) * (x + 2 ^ j) ≤ v
    · have c2 : decide (cmp ((x + 2 ^ j) * (x + 2 ^ j)) v ≤ 0) = true := by
        unfold cmp
        split
        · rfl
        · rw [if_pos (by omega)]; rfl
      rw [c2]
      have e4 : x + 2 ^ j + 2 ^ j = x + 2 ^ (j + 1) := by omega
      exact ih n' (x + 2 ^ j) (by omega) (by omega) hle (by rw [e4]; exact x2) (by omega)
    · have c2 : decide (cmp ((x + 2 ^ j) * (x + 2 ^ j)) v ≤ 0) = false := by
        unfold cmp
        rw [if_neg (by omega), if_neg (by omega)]; rfl
      rw [c2]
      exact ih n' x (by omega) x0 x1 (by omega) (by omega)

theorem rroot_model {N : Nat} (hN : 1000000001 < N) {v : Int} (hv : Rg v) : parquetref01_Root.f N (enc (65536 : Int) v) = some (enc (65536 : Int) (rt v)) := by
  unfold parquetref01_Root.f
  have hv0 := hv.lo
  have lv : (enc (65536 : Int) v).length ≤ 256 := encH_len hv0 (by rw [← K_H]; exact hv.hi)
  have hb := blen_K hv
  have hb0 := blen_nonneg v
  rw [rbits_enc hN hv0 (by omega)]
  simp only [Option.bind_some]
  obtain ⟨b, hbe⟩ : ∃ b : Nat, blen v = b := ⟨(blen v).toNat, by omega⟩
  have hvb : v < 2 ^ b := (blen_le hv0 b).mp (by omega)
  rw [hbe] at hb
  have w2 : Int.tdiv (b : Int) 2 = ((b / 2 : Nat) : Int) := by rw [tdiv_nn (by omega)]; omega
  rw [hbe, w2, wi64_id (n := ((b / 2 : Nat) : Int)) (by omega) (by omega), wi64_id (by omega) (by omega)]
  have e : ((b / 2 : Nat) : Int) + 1 = ((b / 2 + 2 : Nat) : Int) - 1 := by omega
  have hsq : (2 : Int) ^ b ≤ 2 ^ (b / 2 + 2) * 2 ^ (b / 2 + 2) := by rw [← Int.pow_add]; exact p2_mono (by omega)
  have := rroot_loop hN hv (fun y12 => some y12) (b / 2 + 2) N 0 (by omega) (by omega) (by omega) (by rw [Int.zero_add]; omega) (by omega)
  rw [enc_zero H2] at this
  rw [e]
  exact this

theorem rgcd_loop {N : Nat} (hN : 1000000001 < N) {R : Type} (K0 : List Int → Option R) : ∀ (k n : Nat) (u v : Int), Rg u → Rg v → v < 2 ^ k → 2 * k + 1 ≤ n → parquetref01_Gcd.l1 N n (enc (65536 : Int) u) (enc (65536 : Int) v) K0 = K0 (enc (65536 : Int) (gcdI u v)) := by
  have stop : ∀ (n : Nat) (u : Int), Rg u → parquetref01_Gcd.l1 N (n + 1) (enc (65536 : Int) u) (enc (65536 : Int) 0) K0 = K0 (enc (65536 : Int) (gcdI u 0)) := by
    intro n u hu
    rw [parquetref01_Gcd.l1, enc_zero H2, gcd_zero hu.1]
    rfl
  have len : ∀ (u : Int), Rg u → (enc (65536 : Int) u).length ≤ 256 := fun u hu => encH_len hu.lo (by rw [← K_H]; exact hu.hi)
  have one : ∀ (n : Nat) (u v : Int), Rg u → Rg v → v ≠ 0 → parquetref01_Gcd.l1 N (n + 1) (enc (65536 : Int) u) (enc (65536 : Int) v) K0 = parquetref01_Gcd.l1 N n (enc (65536 : Int) v) (enc (65536 : Int) (u % v)) K0 := by
    intro n u v hu hv hz
    rw [parquetref01_Gcd.l1]
    have hne : enc (65536 : Int) v ≠ [] := fun h => hz ((enc_nil H2 hv.1).mp h)
    have hlen : 0 < (enc (65536 : Int) v).length := List.length_pos_iff.mpr hne
    have c : decide (((enc (65536 : Int) v).length : Int) > 0) = true := decide_eq_true (by omega)
    have hu0 := len u hu
    have hv0 := len v hv
    have hvl := hv.lo
    rw [c, rdiv_enc hN hu.lo (by omega) (by omega) (by omega)]
    rfl
  have rem : ∀ (u v : Int), Rg u → Rg v → v ≠ 0 → Rg (u % v) ∧ u % v < v := by
    intro u v hu hv hz
    have hp : 0 < v := by have := hv.1; omega
    have h0 := Int.emod_nonneg u hz
    have h1 := Int.emod_lt_of_pos u hp
    exact ⟨⟨h0, by have := hv.2; omega⟩, h1⟩
  intro k
  induction k with
  | zero =>
    intro n u v hu hv hk hn
    obtain ⟨n', rfl⟩ : ∃ n', n = n' + 1 := ⟨n - 1, by omega⟩
    have hv0 := hv.1
    have : v = 0 := by simp at hk; omega
    subst this
    exact stop n' u hu
  | succ k ih =>
    intro n u v hu hv hk hn
    obtain ⟨n', rfl⟩ : ∃ n', n = n' + 1 + 1 := ⟨n - 2, by omega⟩
    have hu0 := hu.1
    have hv0 := hv.1
    by_cases hz : v = 0
    · subst hz; exact stop _ u hu
    · obtain ⟨r1, r2⟩ := rem u v hu hv hz
      have g1 := gcd_step hu0 (show 0 < v by omega)
      rw [one _ u v hu hv hz, ← g1]
      generalize u % v = r at *
      by_cases hr : r = 0
      · subst hr; exact stop _ v hv
      · have hr0 := r1.1
        obtain ⟨q1, q2⟩ := rem v r hv r1 hr
        have g2 := gcd_step hv0 (show 0 < r by omega)
        rw [one _ v r hv r1 hr, ← g2]
        have hh := half_step (show 0 < r by omega) r2
        have hp : (2 : Int) ^ (k + 1) = 2 * 2 ^ k := by rw [Int.pow_succ]; omega
        exact ih n' r (v % r) r1 q1 (by omega) (by omega)

theorem rgcd_model {N : Nat} (hN : 1000000001 < N) {u v : Int} (hu : Rg u) (hv : Rg v) : parquetref01_Gcd.f N (enc (65536 : Int) u) (enc (65536 : Int) v) = some (enc (65536 : Int) (gcdI u v)) := by
  unfold parquetref01_Gcd.f
  exact rgcd_loop hN _ 4096 N u v hu hv (by have := hv.2; unfold K at this; exact this) (by omega)

/-- The answer is the document's: a number, or too long. -/
theorem same_out {N : Nat} (hN : 1000000001 < N) {x : Int} (h : 0 ≤ x) : parquetlaw01_same.f N (enc (4294967296 : Int) (ov x)) (oe x) (enc (65536 : Int) x) (oe x) = some true := by
  unfold ov oe
  by_cases hk : x < K
  · rw [if_pos hk, if_pos hk]; exact same_num hN ⟨h, hk⟩
  · rw [if_neg hk, if_neg hk, enc_zero B2]; exact same_err N 3 (by decide) _

theorem NatReckons (s t : ByteArray) (w1 : s.size ≤ 140737488351232) (w2 : t.size ≤ 140737488351232) : ∃ N, parquetlaw01_NatReckons.f N s t = some true := by
  refine ⟨8589934700, ?_⟩
  have hN : 1000000001 < 8589934700 := by decide
  have hw := works_true
  generalize 8589934700 = N at *
  obtain ⟨b, hb1, hb2⟩ := beyond2 N s t
  unfold parquetlaw01_NatReckons.f
  rw [hw, hb1]
  cases b
  · obtain ⟨s1, s2⟩ := hb2 rfl
    obtain ⟨u, ru, hu⟩ := read_model hN s (by omega)
    obtain ⟨v, rv, hv⟩ := read_model hN t (by omega)
    have lu : (enc (65536 : Int) u).length ≤ 256 := encH_len ru.lo (by rw [← K_H]; exact ru.hi)
    have lv : (enc (65536 : Int) v).length ≤ 256 := encH_len rv.lo (by rw [← K_H]; exact rv.hi)
    have u0 := ru.lo
    have v0 := rv.lo
    have lm := encH_len_mul u0 v0
    have m0 := Int.mul_nonneg u0 v0
    have la : (enc (65536 : Int) (u + v)).length ≤ 257 := encH_len (by omega) (by rw [Int.pow_succ, ← K_H]; have := ru.hi; have := rv.hi; omega)
    have tail : ((nat_Gcd.f N (enc (4294967296 : Int) u) (enc (4294967296 : Int) v)).bind fun r23 =>
        (nat_Nat_Text.f N r23).bind fun r24 =>
        (parquetref01_Gcd.f N (enc (65536 : Int) u) (enc (65536 : Int) v)).bind fun r25 =>
        (parquetref01_Text.f N r25).bind fun r26 =>
        bif !(r24.toList == r26.toList) then
          some false
        else
        (nat_Root.f N (enc (4294967296 : Int) u)).bind fun r27 =>
        (nat_Nat_Text.f N r27).bind fun r28 =>
        (parquetref01_Root.f N (enc (65536 : Int) u)).bind fun r29 =>
        (parquetref01_Text.f N r29).bind fun r30 =>
        bif !(r28.toList == r30.toList) then
          some false
        else
        (nat_Div.f N (enc (4294967296 : Int) u) (enc (4294967296 : Int) v)).bind fun r31 =>
        bif ((enc (65536 : Int) v).length : Int) == 0 then
          bif r31.2.2 == 11 then
            (nat_Nat_Text.f N r31.1).bind fun r32 =>
            bif r32.toList == str1.toList then
              (nat_Nat_Text.f N r31.2.1).bind fun r33 =>
              some (r33.toList == str1.toList)
            else
            some false
          else
          some false
        else
        (parquetref01_Div.f N (enc (65536 : Int) u) (enc (65536 : Int) v)).bind fun r34 =>
        bif r31.2.2 == 0 then
          (nat_Nat_Text.f N r31.1).bind fun r35 =>
          (parquetref01_Text.f N r34.1).bind fun r36 =>
          bif r35.toList == r36.toList then
            (nat_Nat_Text.f N r31.2.1).bind fun r37 =>
            (parquetref01_Text.f N r34.2).bind fun r38 =>
            bif r37.toList == r38.toList then
              (nat_Nat_Text.f N (enc (4294967296 : Int) u)).bind fun r39 =>
              (parquetref01_Text.f N (enc (65536 : Int) u)).bind fun r40 =>
              bif r39.toList == r40.toList then
                (nat_Nat_Text.f N (enc (4294967296 : Int) v)).bind fun r41 =>
                (parquetref01_Text.f N (enc (65536 : Int) v)).bind fun r42 =>
                some (r41.toList == r42.toList)
              else
              some false
            else
            some false
          else
          some false
        else
        some false) = some true := by
      have rg := gcdI_rg ru rv
      have rr := rt_rg ru
      rw [gcd_model hN ru rv]
      simp only [Option.bind_some]
      rw [text_model hN rg.lo rg.hi]
      simp only [Option.bind_some]
      rw [rgcd_model hN ru rv]
      simp only [Option.bind_some]
      rw [rtext_enc hN rg.lo rg.hi]
      simp only [Option.bind_some, beq_toList, Bool.not_true, cond_false]
      rw [root_model hN ru]
      simp only [Option.bind_some]
      rw [text_model hN rr.lo rr.hi]
      simp only [Option.bind_some]
      rw [rroot_model hN ru]
      simp only [Option.bind_some]
      rw [rtext_enc hN rr.lo rr.hi]
      simp only [Option.bind_some, beq_toList, Bool.not_true, cond_false]
      rw [div_model hN ru rv]
      simp only [Option.bind_some]
      by_cases hz : v = 0
      · subst hz
        rw [if_pos rfl, enc_zero H2]
        have c : ((([] : List Int).length : Int) == 0) = true := rfl
        have c2 : ((11 : Int) == 11) = true := rfl
        rw [c]
        simp only [cond_true, c2, text_nil, Option.bind_some, beq_toList]
      · rw [if_neg hz]
        have hne : enc (65536 : Int) v ≠ [] := fun h => hz ((enc_nil H2 v0).mp h)
        have hlen : 0 < (enc (65536 : Int) v).length := List.length_pos_iff.mpr hne
        have c0 : (((enc (65536 : Int) v).length : Int) == 0) = false := by simp; omega
        have hvp : 0 < v := by omega
        have q0 : 0 ≤ u / v := Int.ediv_nonneg u0 v0
        have q1 : u / v < K := by have := Int.ediv_le_self v u0; have := ru.hi; omega
        have r0 := Int.emod_nonneg u hz
        have r1 : u % v < K := by have := Int.emod_lt_of_pos u hvp; have := rv.hi; omega
        have c2 : ((0 : Int) == 0) = true := rfl
        rw [c0, rdiv_enc hN u0 hvp (by omega) (by omega)]
        simp only [cond_false, cond_true, Option.bind_some, c2]
        rw [text_model hN q0 q1]
        simp only [Option.bind_some]
        rw [rtext_enc hN q0 q1]
        simp only [Option.bind_some, beq_toList, cond_true]
        rw [text_model hN r0 r1]
        simp only [Option.bind_some]
        rw [rtext_enc hN r0 r1]
        simp only [Option.bind_some, beq_toList, cond_true]
        rw [text_model hN u0 ru.hi]
        simp only [Option.bind_some]
        rw [rtext_enc hN u0 ru.hi]
        simp only [Option.bind_some, beq_toList, cond_true]
        rw [text_model hN v0 rv.hi]
        simp only [Option.bind_some]
        rw [rtext_enc hN v0 rv.hi]
        simp only [Option.bind_some, beq_toList]
    simp only [Option.bind_some, Bool.not_true, cond_false]
    rw [hu]
    simp only [Option.bind_some]
    rw [hv]
    simp only [Option.bind_some, Bool.not_true, cond_false]
    rw [add' hN ru rv]
    simp only [Option.bind_some]
    rw [radd_enc hN u0 v0 (by omega) (by omega)]
    simp only [Option.bind_some]
    rw [long_enc hN (by omega) (by omega)]
    simp only [Option.bind_some]
    rw [same_out hN (by omega)]
    simp only [Option.bind_some, Bool.not_true, cond_false]
    rw [cmp' hN ru rv]
    simp only [Option.bind_some]
    rw [rcmp_enc hN u0 v0 (by omega)]
    simp only [Option.bind_some]
    have cc : (cmp u v != cmp u v) = false := by simp
    rw [cc]
    simp only [cond_false]
    rw [mul' hN ru rv]
    simp only [Option.bind_some]
    rw [rmul_enc hN u0 v0 (by omega) (by omega)]
    simp only [Option.bind_some]
    rw [long_enc hN m0 (by omega)]
    simp only [Option.bind_some]
    rw [same_out hN m0]
    simp only [Option.bind_some, Bool.not_true, cond_false]
    rw [sub_enc hN u0 ru.hi v0]
    simp only [Option.bind_some]
    by_cases hlt : u < v
    · have c : decide (cmp u v ≥ 0) = false := by
        unfold cmp
        rw [if_neg (by omega), if_pos hlt]; rfl
      rw [c, if_pos hlt]
      simp only [cond_false]
      rw [same_err N 10 (by decide)]
      simp only [Option.bind_some, Bool.not_true, cond_false]
      exact tail
    · have c : decide (cmp u v ≥ 0) = true := by
        unfold cmp
        by_cases h : u = v
        · rw [if_pos h]; rfl
        · rw [if_neg h, if_neg hlt]; rfl
      rw [c, if_neg hlt]
      simp only [cond_true]
      rw [rsub_enc hN v0 (by omega) (by omega)]
      simp only [Option.bind_some]
      rw [same_num hN ⟨by omega, by have := ru.hi; omega⟩]
      simp only [Option.bind_some, Bool.not_true, cond_false]
      exact tail
  · rfl

end Go.Proofs.Ytnjlpjdncejfcaa.Pure
