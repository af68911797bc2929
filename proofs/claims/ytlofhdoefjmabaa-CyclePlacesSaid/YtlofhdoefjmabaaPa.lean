-- Plain laws of the row law09: square roots, the program's and the document's.
import Derived.Test.YtlofhdoefjmabaaT2
namespace Go.Proofs.Ytlofhdoefjmabaa.Pure
open Go Go.Proofs.Ytlofhdoefjmabaa.Ev
set_option linter.unusedVariables false
set_option linter.unusedSimpArgs false

theorem wi64_id {n : Int} (h1 : -9223372036854775808 ≤ n) (h2 : n < 9223372036854775808) : wi64 n = n := by
  simp only [wi64, IntKind.wrap]
  simp [IntKind.bits, IntKind.signed]
  omega

theorem wu64_id {n : Int} (h1 : 0 ≤ n) (h2 : n < 18446744073709551616) : wu64 n = n := by
  simp only [wu64, IntKind.wrap]
  simp [IntKind.bits, IntKind.signed]
  omega

theorem wu8_id {n : Int} (h1 : 0 ≤ n) (h2 : n < 256) : wu8 n = n := by
  simp only [wu8, IntKind.wrap]
  simp [IntKind.bits, IntKind.signed]
  omega

theorem mul_bound {x y X Y : Int} (h1 : -X ≤ x) (h2 : x ≤ X) (h3 : -Y ≤ y) (h4 : y ≤ Y) : -(X * Y) ≤ x * y ∧ x * y ≤ X * Y := by
  have p1 := Int.mul_nonneg (show 0 ≤ X - x by omega) (show 0 ≤ Y - y by omega)
  have p2 := Int.mul_nonneg (show 0 ≤ X + x by omega) (show 0 ≤ Y + y by omega)
  have p3 := Int.mul_nonneg (show 0 ≤ X - x by omega) (show 0 ≤ Y + y by omega)
  have p4 := Int.mul_nonneg (show 0 ≤ X + x by omega) (show 0 ≤ Y - y by omega)
  have e1 : (X - x) * (Y - y) + (X + x) * (Y + y) = 2 * (X * Y) + 2 * (x * y) := by grind
  have e2 : (X - x) * (Y + y) + (X + x) * (Y - y) = 2 * (X * Y) - 2 * (x * y) := by grind
  omega

theorem sq_mono {x y : Int} (h0 : 0 ≤ x) (h : x ≤ y) : x * x ≤ y * y := by
  have p1 := Int.mul_nonneg h0 (show 0 ≤ y - x by omega)
  have p2 := Int.mul_nonneg (show 0 ≤ y by omega) (show 0 ≤ y - x by omega)
  have e1 : x * (y - x) + y * (y - x) = y * y - x * x := by grind
  omega

theorem sq_lt {x y : Int} (h0 : 0 ≤ x) (hy : 0 ≤ y) (h : x * x < y * y) : x < y := by
  rcases Int.lt_or_le x y with h1 | h1
  · exact h1
  · have := sq_mono hy h1; omega

theorem sq_nonneg (x : Int) : 0 ≤ x * x := by
  rcases Int.le_total 0 x with h | h
  · exact Int.mul_nonneg h h
  · have := Int.mul_nonneg (show (0:Int) ≤ -x by omega) (show (0:Int) ≤ -x by omega)
    have e2 : -x * -x = x * x := by grind
    omega

/-- The square root, rounded down. -/
structure IsRoot (d s : Int) : Prop where
  s0 : 0 ≤ s
  lo : s * s ≤ d
  hi : d < (s + 1) * (s + 1)

theorem IsRoot.unique {d s t : Int} (h : IsRoot d s) (k : IsRoot d t) : s = t := by
  have h1 := sq_lt h.s0 (show 0 ≤ t + 1 by have := k.s0; omega) (by have := h.lo; have := k.hi; omega)
  have h2 := sq_lt k.s0 (show 0 ≤ s + 1 by have := h.s0; omega) (by have := k.lo; have := h.hi; omega)
  omega

theorem IsRoot.lt {d s : Int} (h : IsRoot d s) (hd : d < 1152921504606846976) : s < 1073741824 :=
  sq_lt h.s0 (by omega) (by have := h.lo; have e : (1073741824 : Int) * 1073741824 = 1152921504606846976 := by decide
                            omega)

/- The table of bit lengths -/
theorem tab_spec : ∀ i : Nat, i < 256 → 0 ≤ byteAt str0 i ∧ byteAt str0 i ≤ 8 ∧ (i : Int) < 2 ^ (byteAt str0 i).toNat := by
  decide +kernel

theorem str0_size : str0.size = 256 := by decide +kernel

theorem len_part {x o : Int} (h0 : 0 ≤ x) (h1 : x < 256) (o0 : 0 ≤ o) (o1 : o ≤ 56) : (bif (decide (0 ≤ (wu8 x))) && (decide ((wu8 x) < (str0.size : Int))) then some (wi64 (o + (wi64 (byteAt str0 ((wu8 x).toNat))))) else none) = some (o + byteAt str0 x.toNat) ∧ x < 2 ^ (byteAt str0 x.toNat).toNat ∧ 0 ≤ byteAt str0 x.toNat ∧ byteAt str0 x.toNat ≤ 8 := by
  obtain ⟨t0, t1, t2⟩ := tab_spec x.toNat (by omega)
  rw [wu8_id h0 h1, str0_size]
  have c : (decide (0 ≤ x) && decide (x < ((256 : Nat) : Int))) = true := by simp; omega
  rw [c, wi64_id (n := byteAt str0 x.toNat) (by omega) (by omega), wi64_id (by omega) (by omega)]
  have e : ((x.toNat : Nat) : Int) = x := by omega
  rw [e] at t2
  exact ⟨rfl, t2, t0, t1⟩

theorem pow_split (x q m : Int) (o l : Nat) (hm : m = 2 ^ o) (hq : q = x / m) (hl : q < 2 ^ l) (h0 : 0 < m) : x < 2 ^ (o + l) := by
  have h1 := Int.mul_ediv_add_emod x m
  have h2 := Int.emod_lt_of_pos x h0
  rw [← hq] at h1
  have h3 : m * (q + 1) ≤ m * 2 ^ l := Int.mul_le_mul_of_nonneg_left (by omega) (by omega)
  rw [Int.pow_add, ← hm]
  have e : m * (q + 1) = m * q + m := by grind
  omega

theorem len_model (N : Nat) {x : Int} (h0 : 1 ≤ x) (h1 : x < 1152921504606846976) : ∃ l : Int, bits_Len64.f N x = some l ∧ 0 ≤ l ∧ l ≤ 60 ∧ x < 2 ^ l.toNat := by
  unfold bits_Len64.f
  have f32 : Int.fdiv x (2 ^ 32) = x / 4294967296 := by rw [Int.fdiv_eq_ediv_of_nonneg _ (by decide)]; rfl
  have f16 : ∀ y : Int, Int.fdiv y (2 ^ 16) = y / 65536 := fun y => by rw [Int.fdiv_eq_ediv_of_nonneg _ (by decide)]; rfl
  have f8 : ∀ y : Int, Int.fdiv y (2 ^ 8) = y / 256 := fun y => by rw [Int.fdiv_eq_ediv_of_nonneg _ (by decide)]; rfl
  simp only [f32, f16, f8]
  have fin : ∀ (y o m : Int) (oo : Nat), o = (oo : Int) → oo ≤ 56 → m = 2 ^ oo → 0 < m → y = x / m → 0 ≤ y → y < 256 → (y < 16 ∨ oo ≤ 48) → ∃ l : Int, (bif (decide (0 ≤ (wu8 y))) && (decide ((wu8 y) < (str0.size : Int))) then some (wi64 (o + (wi64 (byteAt str0 ((wu8 y).toNat))))) else none) = some l ∧ 0 ≤ l ∧ l ≤ 60 ∧ x < 2 ^ l.toNat := by
    intro y o m oo ho hoo hm hm0 hy y0 y1 y2
    obtain ⟨p1, p2, p3, p4⟩ := len_part (o := o) y0 y1 (by omega) (by omega)
    refine ⟨_, p1, by omega, ?_, ?_⟩
    · rcases y2 with y2 | y2
      · have : ∀ i : Nat, i < 16 → byteAt str0 i ≤ 4 := by decide +kernel
        have := this y.toNat (by omega)
        omega
      · omega
    · have e : (o + byteAt str0 y.toNat).toNat = oo + (byteAt str0 y.toNat).toNat := by omega
      rw [e]
      exact pow_split x y m oo _ hm hy p2 hm0
  by_cases c1 : x ≥ 4294967296
  · simp only [c1, decide_true, cond_true]
    by_cases c2 : x / 4294967296 ≥ 65536
    · simp only [c2, decide_true, cond_true]
      by_cases c3 : x / 4294967296 / 65536 ≥ 256
      · simp only [c3, decide_true, cond_true]
        exact fin _ 56 72057594037927936 56 rfl (by decide) (by decide) (by decide) (by omega) (by omega) (by omega) (by omega)
      · simp only [c3, decide_false, cond_false]
        exact fin _ 48 281474976710656 48 rfl (by decide) (by decide) (by decide) (by omega) (by omega) (by omega) (by omega)
    · simp only [c2, decide_false, cond_false]
      by_cases c3 : x / 4294967296 ≥ 256
      · simp only [c3, decide_true, cond_true]
        exact fin _ 40 1099511627776 40 rfl (by decide) (by decide) (by decide) (by omega) (by omega) (by omega) (by omega)
      · simp only [c3, decide_false, cond_false]
        exact fin _ 32 4294967296 32 rfl (by decide) (by decide) (by decide) (by omega) (by omega) (by omega) (by omega)
  · simp only [c1, decide_false, cond_false]
    by_cases c2 : x ≥ 65536
    · simp only [c2, decide_true, cond_true]
      by_cases c3 : x / 65536 ≥ 256
      · simp only [c3, decide_true, cond_true]
        exact fin _ 24 16777216 24 rfl (by decide) (by decide) (by decide) (by omega) (by omega) (by omega) (by omega)
      · simp only [c3, decide_false, cond_false]
        exact fin _ 16 65536 16 rfl (by decide) (by decide) (by decide) (by omega) (by omega) (by omega) (by omega)
    · simp only [c2, decide_false, cond_false]
      by_cases c3 : x ≥ 256
      · simp only [c3, decide_true, cond_true]
        exact fin _ 8 256 8 rfl (by decide) (by decide) (by decide) (by omega) (by omega) (by omega) (by omega)
      · simp only [c3, decide_false, cond_false]
        exact fin _ 0 1 0 rfl (by decide) (by decide) (by decide) (by omega) (by omega) (by omega) (by omega)

/-- Newton's steps. -/
theorem newton {R : Type} (N : Nat) {d s : Int} (hr : IsRoot d s) (h1 : 1 ≤ d) (h2 : d < 1152921504606846976) (K : Int → Option R) : ∀ (n : Nat) (x : Int), s ≤ x → 1 ≤ x → x ≤ 1152921504606846976 → x - s < n → cycle_root.l4 N n d x K = K s := by
  intro n
  induction n with
  | zero => intro x a b _ c; omega
  | succ n ih =>
    intro x hx0 hx1 hx2 hf
    have hq := Int.mul_ediv_add_emod d x
    have hq0 := Int.emod_nonneg d (b := x) (by omega)
    have hq1 := Int.emod_lt_of_pos d (b := x) (by omega)
    have hqn : 0 ≤ d / x := Int.ediv_nonneg (by omega) (by omega)
    have hqd : d / x ≤ d := Int.ediv_le_self _ (by omega)
    have et : Int.tdiv d x = d / x := Int.tdiv_eq_ediv_of_nonneg (by omega)
    have lo := hr.lo
    have hi := hr.hi
    have s0 := hr.s0
    have hge : 2 * s ≤ x + d / x := by
      rcases Int.lt_or_le (x + d / x) (2 * s) with h | h
      · exfalso
        have p := Int.mul_le_mul_of_nonneg_left (show d / x + 1 ≤ 2 * s - x by omega) (show 0 ≤ x by omega)
        have e1 : x * (d / x + 1) = x * (d / x) + x := by grind
        have e2 : s * s - x * (2 * s - x) = (x - s) * (x - s) := by grind
        have := sq_nonneg (x - s)
        omega
      · exact h
    have et2 : Int.tdiv (x + d / x) 2 = (x + d / x) / 2 := Int.tdiv_eq_ediv_of_nonneg (by omega)
    rw [cycle_root.l4]
    have c0 : (x == 0) = false := by simp; omega
    rw [et, wi64_id (n := d / x) (by omega) (by omega), wi64_id (n := x + d / x) (by omega) (by omega), et2, wi64_id (n := (x + d / x) / 2) (by omega) (by omega), c0]
    simp only [Bool.not_false, cond_true]
    by_cases hc : (x + d / x) / 2 ≥ x
    · simp only [hc, decide_true, cond_true]
      have : x ≤ d / x := by omega
      have p := Int.mul_le_mul_of_nonneg_left this (show 0 ≤ x by omega)
      have := sq_lt (show 0 ≤ x by omega) (show 0 ≤ s + 1 by omega) (by omega)
      have : x = s := by omega
      rw [this]
    · simp only [hc, decide_false, cond_false]
      have hs1 : 1 ≤ s := by
        rcases Int.lt_or_le 0 s with h | h
        · omega
        · have : s = 0 := by omega
          subst this
          omega
      exact ih _ (by omega) (by omega) (by omega) (by omega)

/-- Bit by bit. -/
theorem bits {R : Type} (N : Nat) {d : Int} (h1 : 1 ≤ d) (h2 : d < 1152921504606846976) (K : Int → Option R) : ∀ (k n : Nat) (s : Int), k ≤ 31 → k + 2 ≤ n → 0 ≤ s → s * s ≤ d → d < (s + 2 * 2 ^ k) * (s + 2 * 2 ^ k) → s + 2 ^ k ≤ 2147483648 → ∃ r, IsRoot d r ∧ parquetref09_Root.l3 N n d s (2 ^ k) K = K r := by
  intro k
  have key : ∀ (k : Nat) (s : Int), 0 ≤ s → s + 2 ^ k ≤ 2147483648 → wi64 (s + 2 ^ k) = s + 2 ^ k ∧ wi64 ((s + 2 ^ k) * (s + 2 ^ k)) = (s + 2 ^ k) * (s + 2 ^ k) ∧ (0:Int) < 2 ^ k := by
    intro k s a b
    have p : (0:Int) < 2 ^ k := Int.pow_pos (by decide)
    have := mul_bound (x := s + 2 ^ k) (y := s + 2 ^ k) (X := 2147483648) (Y := 2147483648) (by omega) (by omega) (by omega) (by omega)
    have e : (2147483648 : Int) * 2147483648 = 4611686018427387904 := by decide
    exact ⟨wi64_id (by omega) (by omega), wi64_id (by omega) (by omega), p⟩
  have taken : ∀ s b : Int, 0 ≤ s → 0 < b → (s + b) * (s + b) ≤ d → s + b < 1073741824 := by
    intro s b hs hb h
    exact sq_lt (by omega) (by omega) (by have e : (1073741824 : Int) * 1073741824 = 1152921504606846976 := by decide
                                          omega)
  induction k with
  | zero =>
    intro n s _ hn s0 lo hi hb
    obtain ⟨n, rfl⟩ : ∃ m, n = m + 2 := ⟨n - 2, by omega⟩
    obtain ⟨w1, w2, w3⟩ := key 0 s s0 hb
    rw [parquetref09_Root.l3]
    simp only [w1, w2]
    have c0 : decide ((2:Int) ^ 0 > 0) = true := by decide
    have e0 : wi64 (Int.tdiv (2 ^ 0) 2) = 0 := by decide
    simp only [c0, cond_true, e0]
    by_cases hc : (s + 2 ^ 0) * (s + 2 ^ 0) ≤ d
    · simp only [hc, decide_true, cond_true]
      refine ⟨s + 2 ^ 0, ⟨by omega, hc, ?_⟩, ?_⟩
      · have e : s + 2 * 2 ^ 0 = s + 2 ^ 0 + 1 := by simp; omega
        rw [← e]; exact hi
      · rw [parquetref09_Root.l3]; rfl
    · simp only [hc, decide_false, cond_false]
      refine ⟨s, ⟨s0, lo, ?_⟩, ?_⟩
      · have e : s + 2 ^ 0 = s + 1 := by simp
        rw [← e]; omega
      · rw [parquetref09_Root.l3]; rfl
  | succ k ih =>
    intro n s hk hn s0 lo hi hb
    obtain ⟨n, rfl⟩ : ∃ m, n = m + 1 := ⟨n - 1, by omega⟩
    obtain ⟨w1, w2, w3⟩ := key (k + 1) s s0 hb
    have p : (0:Int) < 2 ^ k := Int.pow_pos (by decide)
    have e2 : (2:Int) ^ (k + 1) = 2 * 2 ^ k := by rw [Int.pow_succ]; omega
    rw [parquetref09_Root.l3]
    simp only [w1, w2]
    have c0 : decide ((2:Int) ^ (k + 1) > 0) = true := by simp; omega
    have e0 : wi64 (Int.tdiv (2 ^ (k + 1)) 2) = 2 ^ k := by
      rw [e2, Int.mul_tdiv_cancel_left _ (by decide)]
      exact wi64_id (by omega) (by omega)
    simp only [c0, cond_true, e0]
    by_cases hc : (s + 2 ^ (k + 1)) * (s + 2 ^ (k + 1)) ≤ d
    · simp only [hc, decide_true, cond_true]
      have ht := taken s (2 ^ (k + 1)) s0 w3 hc
      refine ih n _ (by omega) (by omega) (by omega) hc ?_ (by omega)
      have e : s + 2 ^ (k + 1) + 2 * 2 ^ k = s + 2 * 2 ^ (k + 1) := by omega
      rw [e]; exact hi
    · simp only [hc, decide_false, cond_false]
      refine ih n _ (by omega) (by omega) s0 lo ?_ (by omega)
      rw [← e2]; omega

theorem pow2_mono {m n : Nat} (h : m ≤ n) : (2 : Int) ^ m ≤ 2 ^ n := by
  have := Nat.pow_le_pow_right (show 0 < 2 by decide) h
  have e : ∀ k : Nat, (2 : Int) ^ k = ((2 ^ k : Nat) : Int) := fun k => by simp
  rw [e, e]; omega

theorem root_model {N : Nat} (hN : 8589934600 < N) {d : Int} (h1 : 1 ≤ d) (h2 : d < 1152921504606846976) : ∃ s, IsRoot d s ∧ cycle_root.f N d = some s ∧ parquetref09_Root.f N d = some s := by
  have e31 : ((0:Int) + 2 * 2 ^ 31) * (0 + 2 * 2 ^ 31) = 18446744073709551616 := by decide
  have l31 : d < ((0:Int) + 2 * 2 ^ 31) * (0 + 2 * 2 ^ 31) := by omega
  obtain ⟨s, hr, hs⟩ := bits N h1 h2 (K := fun y => some y) 31 N 0 (by omega) (by omega) (by omega) (by omega) l31 (by decide)
  refine ⟨s, hr, ?_, ?_⟩
  · unfold cycle_root.f
    have c0 : (d == 0) = false := by simp; omega
    obtain ⟨l, l1, l2, l3, l4⟩ := len_model N h1 h2
    have et : Int.tdiv (l + 1) 2 = (l + 1) / 2 := Int.tdiv_eq_ediv_of_nonneg (by omega)
    rw [c0, wu64_id (by omega) (by omega), l1]
    simp only [cond_false, Option.bind_some]
    rw [wi64_id (n := l + 1) (by omega) (by omega), et, wi64_id (n := (l + 1) / 2) (by omega) (by omega)]
    have c1 : decide (0 ≤ (l + 1) / 2) = true := by simp; omega
    rw [c1]
    simp only [cond_true]
    obtain ⟨m, hm⟩ : ∃ m : Nat, (l + 1) / 2 = (m : Int) := ⟨((l + 1) / 2).toNat, by omega⟩
    have hm2 : min ((l + 1) / 2).toNat 64 = m := by omega
    rw [hm2, Int.one_mul]
    have hmb : m ≤ 30 := by omega
    have hpow : (2 : Int) ^ m ≤ 1073741824 := by
      have : (2:Int) ^ m ≤ 2 ^ 30 := pow2_mono hmb
      have e : (2:Int) ^ 30 = 1073741824 := by decide
      omega
    have hp0 : (0:Int) < 2 ^ m := Int.pow_pos (by decide)
    rw [wi64_id (by omega) (by omega)]
    have hbig : d < 2 ^ m * 2 ^ m := by
      rw [← Int.pow_add]
      have : (2:Int) ^ l.toNat ≤ 2 ^ (m + m) := pow2_mono (by omega)
      omega
    have hlt := sq_lt hr.s0 (by omega) (Int.lt_of_le_of_lt hr.lo hbig)
    exact newton N hr h1 h2 _ N _ (by omega) (by omega) (by omega) (by have := hr.s0; omega)
  · unfold parquetref09_Root.f
    exact hs

end Go.Proofs.Ytlofhdoefjmabaa.Pure
