-- Plain laws of the row law09: checks, reducing, both ways.
import Derived.Test.YtlofhdoefjmabaaPb
namespace Go.Proofs.Ytlofhdoefjmabaa.Pure
open Go Go.Proofs.Ytlofhdoefjmabaa.Ev
set_option linter.unusedVariables false
set_option linter.unusedSimpArgs false

theorem cross_model {N : Nat} (hN : 8589934600 < N) (d : Int) : ∃ r, cycle_cross.f N d = some r ∧ parquetref09_Cross.f N d = some r ∧ (r = true ↔ ∃ s, Cross d s) ∨ (∃ r, cycle_cross.f N d = some r ∧ parquetref09_Cross.f N d = some r ∧ r = false) := by
  unfold cycle_cross.f parquetref09_Cross.f
  by_cases h1 : d < 1
  · exact ⟨false, .inr ⟨false, by simp [h1], by simp [h1], rfl⟩⟩
  · by_cases h2 : d ≥ 1152921504606846976
    · exact ⟨false, .inr ⟨false, by simp [h1, h2], by simp [h1, h2], rfl⟩⟩
    · by_cases h3 : Int.tmod d 4 > 1
      · exact ⟨false, .inr ⟨false, by simp [h1, h2, h3], by simp [h1, h2, h3], rfl⟩⟩
      · obtain ⟨s, hr, r1, r2⟩ := root_model hN (show 1 ≤ d by omega) (by omega)
        have slt := hr.lt (by omega)
        have s0 := hr.s0
        have m1 := mul_bound (x := s) (y := s) (X := 1073741824) (Y := 1073741824) (by omega) (by omega) (by omega) (by omega)
        have k1 : (1073741824 : Int) * 1073741824 = 1152921504606846976 := by decide
        have w : wi64 (s * s) = s * s := wi64_id (by omega) (by omega)
        refine ⟨s * s != d, .inl ⟨by simp [h1, h2, h3, r1, w], by simp [h1, h2, h3, r2, w], ?_⟩⟩
        constructor
        · intro h
          exact ⟨s, ⟨by omega, by omega, hr, by simpa using h⟩⟩
        · rintro ⟨t, ht⟩
          have := ht.root.unique hr
          subst this
          simpa using ht.ne

/-- A form's discriminant is 0 or 1 by 4. -/
theorem disc_mod {d a b c : Int} (h : Good d a b c) (h0 : 0 ≤ d) : ¬ Int.tmod d 4 > 1 := by
  rw [Int.tmod_eq_emod_of_nonneg h0]
  have := h.disc
  have e : d = 4 * -(a * c) + b * b := by grind
  rcases (show b % 2 = 0 ∨ b % 2 = 1 by omega) with hb | hb
  · have e2 : b = 2 * (b / 2) := by omega
    have e3 : b * b = 4 * ((b / 2) * (b / 2)) := by generalize b / 2 = q at *; subst e2; grind
    omega
  · have e2 : b = 2 * (b / 2) + 1 := by omega
    have e3 : b * b = 4 * ((b / 2) * (b / 2) + b / 2) + 1 := by generalize b / 2 = q at *; subst e2; grind
    omega

theorem cross_true {N : Nat} (hN : 8589934600 < N) {d s a b c : Int} (hd : Cross d s) (h : Good d a b c) : cycle_cross.f N d = some true ∧ parquetref09_Cross.f N d = some true := by
  unfold cycle_cross.f parquetref09_Cross.f
  obtain ⟨r, hr, r1, r2⟩ := root_model hN hd.d1 hd.d2
  have := hr.unique hd.root
  subst this
  have h1 : ¬ d < 1 := by have := hd.d1; omega
  have h2 : ¬ d ≥ 1152921504606846976 := by have := hd.d2; omega
  have h3 := disc_mod h (by omega)
  have slt := hr.lt (by omega)
  have s0 := hr.s0
  have m1 := mul_bound (x := r) (y := r) (X := 1073741824) (Y := 1073741824) (by omega) (by omega) (by omega) (by omega)
  have k1 : (1073741824 : Int) * 1073741824 = 1152921504606846976 := by decide
  have w : wi64 (r * r) = r * r := wi64_id (by omega) (by omega)
  have := hd.ne
  exact ⟨by simp [h1, h2, h3, r1, w, this], by simp [h1, h2, h3, r2, w, this]⟩

theorem check_good {N : Nat} (hN : 8589934600 < N) {d s a b c : Int} (hd : Cross d s) (h : Good d a b c) : cycle_Check.f N a b c = some 0 ∧ parquetref09_Check.f N a b c = some 0 := by
  obtain ⟨c1, c2⟩ := cross_true hN hd h
  have hi := disc_id h
  obtain ⟨a0, a1, b0, b1, c0, c1', _⟩ := h
  have n1 : ¬ a < -1073741824 := by omega
  have n2 : ¬ a > 1073741824 := by omega
  have n3 : ¬ b < -1073741824 := by omega
  have n4 : ¬ b > 1073741824 := by omega
  have n5 : ¬ c < -1073741824 := by omega
  have n6 : ¬ c > 1073741824 := by omega
  unfold cycle_Check.f parquetref09_Check.f cycle_disc.f
  rw [hi]
  exact ⟨by simp [n1, n2, n3, n4, n5, n6, c1], by simp [n1, n2, n3, n4, n5, n6, c2]⟩

theorem check_model {N : Nat} (hN : 8589934600 < N) (a b c : Int) : ∃ e, cycle_Check.f N a b c = some e ∧ parquetref09_Check.f N a b c = some e ∧ (e = 0 → ∃ d s, Cross d s ∧ Good d a b c) := by
  unfold cycle_Check.f parquetref09_Check.f cycle_disc.f
  by_cases n1 : a < -1073741824
  · have : ¬ a > 1073741824 := by omega
    exact ⟨3, by simp [n1], by simp [n1, this], fun h => absurd h (by decide)⟩
  by_cases n2 : a > 1073741824
  · exact ⟨3, by simp [n1, n2], by simp [n1, n2], fun h => absurd h (by decide)⟩
  by_cases n3 : b < -1073741824
  · have : ¬ b > 1073741824 := by omega
    exact ⟨3, by simp [n1, n2, n3], by simp [n1, n2, n3, this], fun h => absurd h (by decide)⟩
  by_cases n4 : b > 1073741824
  · exact ⟨3, by simp [n1, n2, n3, n4], by simp [n1, n2, n3, n4], fun h => absurd h (by decide)⟩
  by_cases n5 : c < -1073741824
  · have : ¬ c > 1073741824 := by omega
    exact ⟨3, by simp [n1, n2, n3, n4, n5], by simp [n1, n2, n3, n4, n5, this], fun h => absurd h (by decide)⟩
  by_cases n6 : c > 1073741824
  · exact ⟨3, by simp [n1, n2, n3, n4, n5, n6], by simp [n1, n2, n3, n4, n5, n6], fun h => absurd h (by decide)⟩
  have hg : Good (b * b - 4 * a * c) a b c := ⟨by omega, by omega, by omega, by omega, by omega, by omega, rfl⟩
  rw [disc_id hg]
  obtain ⟨r, ⟨x1, x2, x3⟩ | ⟨r, x1, x2, x3⟩⟩ := cross_model hN (b * b - 4 * a * c)
  · cases r
    · exact ⟨80, by simp [n1, n2, n3, n4, n5, n6, x1], by simp [n1, n2, n3, n4, n5, n6, x2], fun h => absurd h (by decide)⟩
    · obtain ⟨s, hs⟩ := x3.mp rfl
      exact ⟨0, by simp [n1, n2, n3, n4, n5, n6, x1], by simp [n1, n2, n3, n4, n5, n6, x2], fun _ => ⟨_, s, hs, hg⟩⟩
  · subst x3
    exact ⟨80, by simp [n1, n2, n3, n4, n5, n6, x1], by simp [n1, n2, n3, n4, n5, n6, x2], fun h => absurd h (by decide)⟩

/-- Is a form reduced? -/
def Red (s a b : Int) : Prop := 1 ≤ b ∧ b ≤ s ∧ s < b + 2 * ab a ∧ 2 * ab a - b ≤ s
instance (s a b : Int) : Decidable (Red s a b) := inferInstanceAs (Decidable (_ ∧ _))

theorem reduced_model {N : Nat} (hN : 8589934600 < N) {d s a b c : Int} (hd : Cross d s) (h : Good d a b c) : cycle_reduced.f N a b c s = some (decide (Red s a b)) ∧ parquetref09_Reduced.f N a b c = some (decide (Red s a b)) ∧ cycle_Reduced.f N a b c = some (decide (Red s a b)) := by
  obtain ⟨r, hr, r1, r2⟩ := root_model hN hd.d1 hd.d2
  have := hr.unique hd.root
  subst this
  have k := (check_good hN hd h).1
  have hi := disc_id h
  obtain ⟨a0, a1, b0, b1, c0, c1, _⟩ := h
  have hab : 0 ≤ ab a ∧ ab a ≤ 1073741824 := by rcases ab_cases a with ⟨_, e⟩ | ⟨_, e⟩ <;> omega
  obtain ⟨z1, z2⟩ := size_model N (x := a) (by omega) (by omega)
  have w1 : wi64 (2 * ab a) = 2 * ab a := wi64_id (by omega) (by omega)
  have w2 : wi64 (b + 2 * ab a) = b + 2 * ab a := wi64_id (by omega) (by omega)
  have w3 : wi64 (2 * ab a - b) = 2 * ab a - b := wi64_id (by omega) (by omega)
  have main : cycle_reduced.f N a b c r = some (decide (Red r a b)) ∧ parquetref09_Reduced.f N a b c = some (decide (Red r a b)) := by
    unfold cycle_reduced.f parquetref09_Reduced.f Red
    rw [hi, r2, z1, z2]
    simp only [Option.bind_some, w1, w2, w3]
    by_cases h1 : b ≥ 1
    · by_cases h2 : b ≤ r
      · by_cases h3 : r < b + 2 * ab a
        · have h1' : 1 ≤ b := h1
          simp [h1, h2, h3, h1']
        · simp [h1, h2, h3]
      · simp [h1, h2]
    · have h1' : ¬ 1 ≤ b := h1
      simp [h1, h1']
  refine ⟨main.1, main.2, ?_⟩
  unfold cycle_Reduced.f cycle_disc.f
  rw [k, hi]
  simp [r1, main.1]

/-- A form that a step has made. -/
def Normed (s a b : Int) : Prop := (ab a > s ∧ -(ab a) < b ∧ b ≤ ab a) ∨ (ab a ≤ s ∧ s - 2 * ab a < b ∧ b ≤ s ∧ -s ≤ b)
instance (s a b : Int) : Decidable (Normed s a b) := inferInstanceAs (Decidable (_ ∨ _))

theorem Good.normed {d s a b c : Int} (hd : Cross d s) (h : Good d a b c) : Normed s c (nB s b c) := by
  obtain ⟨_, hce⟩ := h.ane hd
  obtain ⟨_, k1, k2⟩ := h.next hd
  obtain ⟨n1, n2, _⟩ := nB_spec s b c hce
  rcases Int.lt_or_le s (ab c) with h1 | h1
  · have := k2 h1; exact .inl ⟨h1, by omega, by omega⟩
  · have := k1 h1
    have ht : top s c = s := by unfold top; rw [if_neg (by omega)]
    rw [ht] at n1
    exact .inr ⟨h1, by omega, by omega, by omega⟩

/-- Of a form that a step has made and that is not reduced, the last coefficient is less than the first. -/
theorem Good.less {d s a b c : Int} (hd : Cross d s) (h : Good d a b c) (hn : Normed s a b) (hr : ¬ Red s a b) : ab c < ab a := by
  obtain ⟨hne, _⟩ := h.ane hd
  have ha : 0 < ab a := by rcases ab_cases a with ⟨h, e⟩ | ⟨h, e⟩ <;> omega
  have hc := ab_nonneg c
  have lo := hd.root.lo
  have hi := hd.root.hi
  have s0 := hd.root.s0
  have d1 := hd.d1
  have hdd := h.disc
  have e4 : ab (b * b - d) = 4 * (ab a * ab c) := by
    have : b * b - d = 4 * a * c := by omega
    rw [this, ab_mul, ab_mul]
    have : ab 4 = 4 := rfl
    rw [this]; grind
  rcases Int.lt_or_le (ab c) (ab a) with h1 | h1
  · exact h1
  exfalso
  have hmul := Int.mul_le_mul_of_nonneg_left h1 (show 0 ≤ ab a by omega)
  have bsq := sq_nonneg b
  rcases hn with ⟨n1, n2, n3⟩ | ⟨n1, n2, n3, n4⟩
  · have p1 := sq_mono (show 0 ≤ s + 1 by omega) (show s + 1 ≤ ab a by omega)
    have p2 : b * b ≤ ab a * ab a := by
      rw [← ab_sq b]
      exact sq_mono (ab_nonneg _) (by rcases ab_cases b with ⟨_, e⟩ | ⟨_, e⟩ <;> omega)
    have p3 := sq_mono (show 0 ≤ 1 by omega) (show 1 ≤ ab a by omega)
    rcases ab_cases (b * b - d) with ⟨_, e⟩ | ⟨_, e⟩ <;> omega
  · have p2 : b * b ≤ s * s := by
      rw [← ab_sq b]
      exact sq_mono (ab_nonneg _) (by rcases ab_cases b with ⟨_, e⟩ | ⟨_, e⟩ <;> omega)
    have p4 : ab (b * b - d) = d - b * b := by
      rcases ab_cases (b * b - d) with ⟨_, e⟩ | ⟨_, e⟩ <;> omega
    have hlt : (s + 1) * (s + 1) ≤ 4 * (ab a * ab a) + b * b := by
      by_cases hb : b ≤ 0
      · have q := sq_mono (show 0 ≤ s + 1 by omega) (show s + 1 ≤ 2 * ab a + b by omega)
        have q1 := Int.mul_nonneg (show 0 ≤ ab a by omega) (show 0 ≤ -b by omega)
        have q2 : (2 * ab a + b) * (2 * ab a + b) = 4 * (ab a * ab a) - 4 * (ab a * -b) + b * b := by grind
        omega
      · have hb2 : b < 2 * ab a - s := by
          unfold Red at hr
          omega
        have q := sq_mono (show 0 ≤ s + 1 by omega) (show s + 1 ≤ 2 * ab a - b by omega)
        have q1 := Int.mul_nonneg (show 0 ≤ ab a by omega) (show 0 ≤ b by omega)
        have q2 : (2 * ab a - b) * (2 * ab a - b) = 4 * (ab a * ab a) - 4 * (ab a * b) + b * b := by grind
        omega
    omega

def mu (s a b : Int) : Int := if Normed s a b then ab a else 1073741826

/- Turns, up to what the machine's words let through -/
abbrev W := BitVec 64
def wd (x : Int) : W := BitVec.ofInt 64 x
theorem wd_add (x y : Int) : wd (x + y) = wd x + wd y := BitVec.ofInt_add ..
theorem wd_mul (x y : Int) : wd (x * y) = wd x * wd y := BitVec.ofInt_mul ..
theorem wi64_eq (x : Int) : wi64 x = (wd x).toInt := by
  simp only [wi64, IntKind.wrap, wd, BitVec.toInt_ofInt]
  simp [IntKind.bits, IntKind.signed, Int.bmod]
  split <;> omega
theorem wd_wi64 (x : Int) : wd (wi64 x) = wd x := by rw [wi64_eq]; exact BitVec.ofInt_toInt ..
theorem wd_neg (x : Int) : wd (-x) = -wd x := by simp [wd, BitVec.ofInt_neg]
theorem wd_sub (x y : Int) : wd (x - y) = wd x - wd y := by rw [Int.sub_eq_add_neg, wd_add, wd_neg, BitVec.sub_eq_add_neg]

/-- The form a, b, c is the first form under the turn p, q, r, t; its determinant is 1. -/
structure Turned (a0 b0 c0 a b c p q r t : W) : Prop where
  ea : a = a0 * p * p + b0 * p * r + c0 * r * r
  eb : b = 2 * a0 * p * q + b0 * (p * t + q * r) + 2 * c0 * r * t
  ec : c = a0 * q * q + b0 * q * t + c0 * t * t
  det : p * t - q * r = 1

theorem Turned.step {a0 b0 c0 a b c p q r t k : W} (h : Turned a0 b0 c0 a b c p q r t) : Turned a0 b0 c0 c (2 * c * k - b) (a - b * k + c * k * k) q (-p + q * k) t (-r + t * k) := by
  obtain ⟨ea, eb, ec, det⟩ := h
  subst ea eb ec
  exact ⟨by grind, by grind, by grind, by grind⟩

theorem Turned.one (a b c : W) : Turned a b c a b c 1 0 0 1 := ⟨by grind, by grind, by grind, by grind⟩

theorem mu_bound {d s a b c : Int} (hd : Cross d s) (h : Good d a b c) : 1 ≤ mu s a b ∧ mu s a b ≤ 1073741826 := by
  obtain ⟨hne, _⟩ := h.ane hd
  have := h.a0; have := h.a1
  unfold mu
  split
  · rcases ab_cases a with ⟨_, e⟩ | ⟨_, e⟩ <;> omega
  · omega

theorem mu_next {d s a b c : Int} (hd : Cross d s) (h : Good d a b c) (hr : ¬ Red s a b) : mu s c (nB s b c) < mu s a b := by
  have hn := h.normed hd
  unfold mu
  rw [if_pos hn]
  split
  · rename_i h1; exact h.less hd h1 hr
  · have := h.c0; have := h.c1
    rcases ab_cases c with ⟨_, e⟩ | ⟨_, e⟩ <;> omega

theorem reduce_loops {N M : Nat} (hN : 8589934600 < N) (hM : 8589934600 < M) {d s : Int} (hd : Cross d s) : ∀ (n : Nat) (a b c p q r t : Int), Good d a b c → mu s a b < n → ∃ a' b' c' p' q' r' t', Good d a' b' c' ∧ Red s a' b' ∧
    (∀ a0 b0 c0, Turned a0 b0 c0 (wd a) (wd b) (wd c) (wd p) (wd q) (wd r) (wd t) → Turned a0 b0 c0 (wd a') (wd b') (wd c') (wd p') (wd q') (wd r') (wd t')) ∧
    (∀ {R : Type} x1 x2 x3 x4 x5 x6 x7 (K : Int → Int → Int → Int → Int → Int → Int → Int → Int → Int → Int → Int → Int → Int → Option R), cycle_Reduce.l7 N n d s a b c x1 x2 x3 x4 x5 x6 x7 p q r t K = K a' b' c' x1 x2 x3 x4 x5 x6 x7 p' q' r' t') ∧
    (∀ {R : Type} x1 x2 x3 x4 x5 x6 x7 (K : Int → Int → Int → Int → Int → Int → Int → Option R), parquetref09_Reduce.l2 M n a b c x1 x2 x3 x4 x5 x6 x7 p q r t K = K a' b' c' p' q' r' t') := by
  intro n
  induction n with
  | zero => intro a b c p q r t h hm; have := (mu_bound hd h).1; omega
  | succ n ih =>
    intro a b c p q r t h hm
    obtain ⟨k1, _⟩ := reduced_model hN hd h
    obtain ⟨_, k2, _⟩ := reduced_model hM hd h
    by_cases hr : Red s a b
    · refine ⟨a, b, c, p, q, r, t, h, hr, fun _ _ _ h => h, fun x1 x2 x3 x4 x5 x6 x7 K => ?_, fun x1 x2 x3 x4 x5 x6 x7 K => ?_⟩
      · rw [cycle_Reduce.l7, k1]; simp [hr]
      · rw [parquetref09_Reduce.l2, k2]; simp [hr]
    · have hlt := mu_next hd h hr
      obtain ⟨a', b', c', p', q', r', t', g1, g2, g3, g4, g5⟩ := ih c (nB s b c) (nC s a b c) (wi64 (wi64 (p * 0) + wi64 (q * 1))) (wi64 (wi64 (p * -1) + wi64 (q * nK s b c))) (wi64 (wi64 (r * 0) + wi64 (t * 1))) (wi64 (wi64 (r * -1) + wi64 (t * nK s b c))) (h.next hd).1 (by omega)
      refine ⟨a', b', c', p', q', r', t', g1, g2, fun a0 b0 c0 ht => g3 a0 b0 c0 ?_, fun x1 x2 x3 x4 x5 x6 x7 K => ?_, fun x1 x2 x3 x4 x5 x6 x7 K => ?_⟩
      · have hs := ht.step (k := wd (nK s b c))
        have e1 : wd (nB s b c) = 2 * wd c * wd (nK s b c) - wd b := by
          rw [(nB_spec s b c (h.ane hd).2).2.2, wd_sub, wd_mul, wd_mul]; rfl
        have e2 : wd (nC s a b c) = wd a - wd b * wd (nK s b c) + wd c * wd (nK s b c) * wd (nK s b c) := by
          unfold nC; rw [wd_add, wd_sub, wd_mul, wd_mul, wd_mul]
        have z0 : wd 0 = 0 := rfl
        have z1 : wd 1 = 1 := rfl
        have zm : wd (-1) = -1 := rfl
        simp only [wd_wi64, wd_add, wd_mul, e1, e2, z0, z1, zm]
        have f1 : wd p * 0 + wd q * 1 = wd q := by grind
        have f2 : wd p * -1 + wd q * wd (nK s b c) = -wd p + wd q * wd (nK s b c) := by grind
        have f3 : wd r * 0 + wd t * 1 = wd t := by grind
        have f4 : wd r * -1 + wd t * wd (nK s b c) = -wd r + wd t * wd (nK s b c) := by grind
        rw [f1, f2, f3, f4]
        exact hs
      · rw [cycle_Reduce.l7, k1]
        simp only [Option.bind_some, hr, decide_false, Bool.not_false, cond_true, next_model N hd h]
        exact g4 _ _ _ _ _ _ _ K
      · rw [parquetref09_Reduce.l2, k2]
        simp only [Option.bind_some, hr, decide_false, cond_false, Next_model hM hd h, parquetref09_Times.f]
        exact g5 _ _ _ _ _ _ _ K

/-- Both reduce alike. -/
theorem reduce_model {N : Nat} (hN : 8589934600 < N) {d s a b c : Int} (hd : Cross d s) (h : Good d a b c) : ∃ a' b' c' p q r t, cycle_Reduce.f N a b c = some (a', b', c', p, q, r, t, 0) ∧ parquetref09_Reduce.f N a b c = some (a', b', c', p, q, r, t) ∧ Good d a' b' c' ∧ Red s a' b' ∧ Turned (wd a) (wd b) (wd c) (wd a') (wd b') (wd c') (wd p) (wd q) (wd r) (wd t) := by
  obtain ⟨x, hr, r1, r2⟩ := root_model hN hd.d1 hd.d2
  have := hr.unique hd.root
  subst this
  obtain ⟨k1, k2⟩ := check_good hN hd h
  have := (mu_bound hd h).2
  obtain ⟨a', b', c', p, q, r, t, g1, g2, g3, g4, g5⟩ := reduce_loops hN hN hd N a b c 1 0 0 1 h (by omega)
  refine ⟨a', b', c', p, q, r, t, ?_, ?_, g1, g2, g3 _ _ _ (Turned.one ..)⟩
  · unfold cycle_Reduce.f cycle_disc.f
    rw [k1, disc_id h]
    simp only [Option.bind_some, bne_self_eq_false, cond_false, r1]
    exact g4 _ _ _ _ _ _ _ _
  · unfold parquetref09_Reduce.f
    exact g5 _ _ _ _ _ _ _ _

end Go.Proofs.Ytlofhdoefjmabaa.Pure
