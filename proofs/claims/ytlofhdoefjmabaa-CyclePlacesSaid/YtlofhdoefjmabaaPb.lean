-- Plain laws of the row law09: one step of a cycle, the program's and the document's.
import Derived.Test.YtlofhdoefjmabaaPa
namespace Go.Proofs.Ytlofhdoefjmabaa.Pure
open Go Go.Proofs.Ytlofhdoefjmabaa.Ev
set_option linter.unusedVariables false
set_option linter.unusedSimpArgs false

/-- A number without its sign. -/
def ab (x : Int) : Int := if x < 0 then -x else x
theorem ab_nonneg (x : Int) : 0 ≤ ab x := by unfold ab; split <;> omega
theorem ab_cases (x : Int) : (0 ≤ x ∧ ab x = x) ∨ (x < 0 ∧ ab x = -x) := by unfold ab; split <;> omega
theorem ab_sq (x : Int) : ab x * ab x = x * x := by unfold ab; split <;> grind
theorem ab_mul (x y : Int) : ab (x * y) = ab x * ab y := by
  rcases ab_cases x with ⟨h, e⟩ | ⟨h, e⟩ <;> rcases ab_cases y with ⟨k, f⟩ | ⟨k, f⟩ <;> rw [e, f]
  · have := Int.mul_nonneg h k
    rcases ab_cases (x * y) with ⟨_, g⟩ | ⟨_, g⟩ <;> omega
  · have := Int.mul_nonneg h (show 0 ≤ -y by omega)
    have e1 : x * -y = -(x * y) := by grind
    rcases ab_cases (x * y) with ⟨_, g⟩ | ⟨_, g⟩ <;> omega
  · have := Int.mul_nonneg (show 0 ≤ -x by omega) k
    have e1 : -x * y = -(x * y) := by grind
    rcases ab_cases (x * y) with ⟨_, g⟩ | ⟨_, g⟩ <;> omega
  · have := Int.mul_nonneg (show 0 ≤ -x by omega) (show 0 ≤ -y by omega)
    have e1 : -x * -y = x * y := by grind
    rcases ab_cases (x * y) with ⟨_, g⟩ | ⟨_, g⟩ <;> omega

/-- A discriminant of cross forms and its root. -/
structure Cross (d s : Int) : Prop where
  d1 : 1 ≤ d
  d2 : d < 1152921504606846976
  root : IsRoot d s
  ne : s * s ≠ d

/-- A form of the discriminant d, its coefficients as they may be. -/
structure Good (d a b c : Int) : Prop where
  a0 : -1073741824 ≤ a
  a1 : a ≤ 1073741824
  b0 : -1073741824 ≤ b
  b1 : b ≤ 1073741824
  c0 : -1073741824 ≤ c
  c1 : c ≤ 1073741824
  disc : b * b - 4 * a * c = d

theorem Cross.nosq {d s : Int} (h : Cross d s) (x : Int) : x * x ≠ d := by
  intro e
  have h1 : IsRoot d (ab x) := by
    have h2 := ab_nonneg x
    have h3 := ab_sq x
    refine ⟨h2, by omega, ?_⟩
    have e2 : (ab x + 1) * (ab x + 1) = ab x * ab x + 2 * ab x + 1 := by grind
    omega
  have := h.root.unique h1
  exact h.ne (by rw [this, ab_sq]; exact e)

theorem Good.ane {d s a b c : Int} (hd : Cross d s) (h : Good d a b c) : a ≠ 0 ∧ c ≠ 0 := by
  have := h.disc
  refine ⟨fun e => ?_, fun e => ?_⟩
  · subst e; exact hd.nosq b (by simpa using this)
  · subst e; exact hd.nosq b (by simpa using this)

/-- The top of where the next b may be. -/
def top (s c : Int) : Int := if ab c > s then ab c else s
def nB (s b c : Int) : Int := top s c - (top s c + b) % (2 * ab c)
def nK (s b c : Int) : Int := (b + nB s b c) / (2 * c)
def nC (s a b c : Int) : Int := a - b * nK s b c + c * nK s b c * nK s b c

theorem nB_spec (s b c : Int) (hc : c ≠ 0) : top s c - 2 * ab c < nB s b c ∧ nB s b c ≤ top s c ∧ nB s b c = 2 * c * nK s b c - b := by
  have ha : 0 < ab c := by rcases ab_cases c with ⟨h, e⟩ | ⟨h, e⟩ <;> omega
  have h1 := Int.mul_ediv_add_emod (top s c + b) (2 * ab c)
  have h2 := Int.emod_nonneg (top s c + b) (b := 2 * ab c) (by omega)
  have h3 := Int.emod_lt_of_pos (top s c + b) (b := 2 * ab c) (by omega)
  refine ⟨by unfold nB; omega, by unfold nB; omega, ?_⟩
  have hk : b + nB s b c = 2 * ab c * ((top s c + b) / (2 * ab c)) := by unfold nB; omega
  have : (2 * c) ∣ (b + nB s b c) := by
    rw [hk]
    rcases ab_cases c with ⟨h, e⟩ | ⟨h, e⟩
    · rw [e]; exact Int.dvd_mul_right _ _
    · rw [e]; exact ⟨-((top s c + b) / (2 * -c)), by grind⟩
  unfold nK
  have := Int.mul_ediv_cancel' this
  omega

theorem nC_mul (d s a b c : Int) (hc : c ≠ 0) (hd : b * b - 4 * a * c = d) : nB s b c * nB s b c - d = 4 * c * nC s a b c := by
  rw [(nB_spec s b c hc).2.2, ← hd]
  unfold nC
  grind

/-- A step stays among what may be. -/
theorem Good.next {d s a b c : Int} (hd : Cross d s) (h : Good d a b c) : Good d c (nB s b c) (nC s a b c) ∧ (ab c ≤ s → -s ≤ nB s b c ∧ nB s b c ≤ s ∧ ab (nC s a b c) ≤ s) ∧ (ab c > s → -(ab c) < nB s b c ∧ nB s b c ≤ ab c ∧ 4 * ab (nC s a b c) ≤ ab c) := by
  obtain ⟨hne, hce⟩ := h.ane hd
  obtain ⟨n1, n2, n3⟩ := nB_spec s b c hce
  have n4 := nC_mul d s a b c hce h.disc
  have ha : 0 < ab c := by rcases ab_cases c with ⟨h, e⟩ | ⟨h, e⟩ <;> omega
  have hr := hd.root
  have s0 := hr.s0
  have slt := hr.lt hd.d2
  generalize hb' : nB s b c = b' at *
  generalize hc' : nC s a b c = c' at *
  have n5 : ab (b' * b' - d) = 4 * (ab c * ab c') := by
    rw [n4, ab_mul, ab_mul]
    have : ab 4 = 4 := rfl
    rw [this]; grind
  have hlo := hr.lo
  have hhi := hr.hi
  have hac' := ab_nonneg c'
  have caseA : ab c > s → -(ab c) < b' ∧ b' ≤ ab c ∧ 4 * ab c' ≤ ab c := by
    intro hc1
    have ht : top s c = ab c := by unfold top; rw [if_pos hc1]
    rw [ht] at n1 n2
    refine ⟨by omega, n2, ?_⟩
    have p1 := sq_mono (show 0 ≤ s + 1 by omega) (show s + 1 ≤ ab c by omega)
    have p2 : b' * b' ≤ ab c * ab c := by
      rw [← ab_sq b']
      exact sq_mono (ab_nonneg _) (by rcases ab_cases b' with ⟨_, e⟩ | ⟨_, e⟩ <;> omega)
    have p3 := sq_nonneg b'
    have p4 : ab (b' * b' - d) ≤ ab c * ab c := by
      have := hd.d1
      rcases ab_cases (b' * b' - d) with ⟨_, e⟩ | ⟨_, e⟩ <;> omega
    rw [n5] at p4
    rcases Int.lt_or_le (ab c) (4 * ab c') with h | h
    · exfalso
      have := Int.mul_lt_mul_of_pos_left h ha
      have e : ab c * (4 * ab c') = 4 * (ab c * ab c') := by grind
      omega
    · exact h
  have caseB : ab c ≤ s → -s ≤ b' ∧ b' ≤ s ∧ ab c' ≤ s := by
    intro hc1
    have ht : top s c = s := by unfold top; rw [if_neg (by omega)]
    rw [ht] at n1 n2
    refine ⟨by omega, n2, ?_⟩
    have p2 : b' * b' ≤ s * s := by
      rw [← ab_sq b']
      exact sq_mono (ab_nonneg _) (by rcases ab_cases b' with ⟨_, e⟩ | ⟨_, e⟩ <;> omega)
    have p4 : ab (b' * b' - d) = d - b' * b' := by
      rcases ab_cases (b' * b' - d) with ⟨_, e⟩ | ⟨_, e⟩ <;> omega
    rw [n5] at p4
    rcases Int.lt_or_le s (ab c') with h | h
    · exfalso
      have q1 := Int.mul_le_mul_of_nonneg_left (show s + 1 ≤ ab c' by omega) (show 0 ≤ ab c by omega)
      have q2 := Int.mul_nonneg (show 0 ≤ 2 * ab c - (s + 1 - b') by omega) (show 0 ≤ s + 1 + b' by omega)
      have q3 : (s + 1) * (s + 1) - b' * b' = (s + 1 - b') * (s + 1 + b') := by grind
      have q4 := Int.mul_nonneg (show 0 ≤ 2 * ab c by omega) (show 0 ≤ 2 * (s + 1) - (s + 1 + b') by omega)
      have q5 : (2 * ab c - (s + 1 - b')) * (s + 1 + b') + 2 * ab c * (2 * (s + 1) - (s + 1 + b')) = 4 * (ab c * (s + 1)) - (s + 1 - b') * (s + 1 + b') := by grind
      omega
    · exact h
  have hcb : ab c ≤ 1073741824 := by
    have := h.c0; have := h.c1
    rcases ab_cases c with ⟨_, e⟩ | ⟨_, e⟩ <;> omega
  refine ⟨⟨h.c0, h.c1, ?_, ?_, ?_, ?_, by have e : 4 * c * c' = b' * b' - d := n4.symm
                                          omega⟩, caseB, caseA⟩
  all_goals rcases Int.lt_or_le s (ab c) with h1 | h1
  all_goals first | have := caseA h1 | have := caseB h1
  all_goals rcases ab_cases c' with ⟨_, e⟩ | ⟨_, e⟩ <;> omega

/- The program's and the document's words for it -/
theorem size_model (N : Nat) {x : Int} (h0 : -4611686018427387904 ≤ x) (h1 : x ≤ 4611686018427387904) : cycle_size.f N x = some (ab x) ∧ parquetref09_size.f N x = some (ab x) := by
  unfold cycle_size.f parquetref09_size.f mx2 ab
  rw [wi64_id (n := 0 - x) (by omega) (by omega)]
  by_cases h : x < 0
  · rw [if_pos (show 0 - x > x by omega), if_pos h]
    have e : 0 - x = -x := by omega
    simp [h, e]
  · rw [if_neg (show ¬ 0 - x > x by omega), if_neg h]
    simp [h]

theorem disc_id {d a b c : Int} (h : Good d a b c) : wi64 (wi64 (b * b) - wi64 (wi64 (4 * a) * c)) = d := by
  obtain ⟨a0, a1, b0, b1, c0, c1, hd⟩ := h
  have m1 := mul_bound (X := 1073741824) (Y := 1073741824) b0 b1 b0 b1
  have m2 := mul_bound (x := 4 * a) (X := 4294967296) (Y := 1073741824) (by omega) (by omega) c0 c1
  have k1 : (1073741824 : Int) * 1073741824 = 1152921504606846976 := by decide
  have k2 : (4294967296 : Int) * 1073741824 = 4611686018427387904 := by decide
  rw [wi64_id (n := b * b) (by omega) (by omega), wi64_id (n := 4 * a) (by omega) (by omega), wi64_id (n := 4 * a * c) (by omega) (by omega), wi64_id (by omega) (by omega), hd]

theorem tmod_pos {x y : Int} (hy : 0 < y) : (Int.tmod x y < 0 → Int.tmod x y + y = x % y) ∧ (¬ Int.tmod x y < 0 → Int.tmod x y = x % y) := by
  have h1 := Int.mul_tdiv_add_tmod x y
  have h2 := Int.tmod_lt_of_pos x hy
  have h3 := Int.lt_tmod_of_pos x hy
  refine ⟨fun h => ?_, fun h => ?_⟩
  · have := (Int.ediv_emod_unique (a := x) (r := Int.tmod x y + y) (q := Int.tdiv x y - 1) hy).mpr ⟨by rw [Int.mul_sub, Int.mul_one]; omega, by omega, by omega⟩
    exact this.2.symm
  · have := (Int.ediv_emod_unique (a := x) (r := Int.tmod x y) (q := Int.tdiv x y) hy).mpr ⟨by omega, by omega, by omega⟩
    exact this.2.symm

theorem step_ends {d s a b c : Int} (hd : Cross d s) (h : Good d a b c) : wi64 (Int.tdiv (wi64 (wi64 (nB s b c * nB s b c) - d)) (wi64 (4 * c))) = nC s a b c ∧ wi64 (Int.tdiv (wi64 (b + nB s b c)) (wi64 (2 * c))) = nK s b c ∧ (wi64 (4 * c) == 0) = false ∧ (wi64 (2 * c) == 0) = false := by
  obtain ⟨hne, hce⟩ := h.ane hd
  obtain ⟨g, _⟩ := h.next hd
  obtain ⟨n1, n2, n3⟩ := nB_spec s b c hce
  have n4 := nC_mul d s a b c hce h.disc
  obtain ⟨ga0, ga1, gb0, gb1, gc0, gc1, _⟩ := g
  have := h.b0; have := h.b1; have := h.c0; have := h.c1; have := hd.d1; have := hd.d2
  have m1 := mul_bound (X := 1073741824) (Y := 1073741824) gb0 gb1 gb0 gb1
  have k1 : (1073741824 : Int) * 1073741824 = 1152921504606846976 := by decide
  have w4 : wi64 (4 * c) = 4 * c := wi64_id (by omega) (by omega)
  have w2 : wi64 (2 * c) = 2 * c := wi64_id (by omega) (by omega)
  rw [wi64_id (n := nB s b c * nB s b c) (by omega) (by omega), wi64_id (n := nB s b c * nB s b c - d) (by omega) (by omega), wi64_id (n := b + nB s b c) (by omega) (by omega), w4, w2]
  have e1 : Int.tdiv (nB s b c * nB s b c - d) (4 * c) = nC s a b c := by rw [n4]; exact Int.mul_tdiv_cancel_left _ (by omega)
  have e2 : Int.tdiv (b + nB s b c) (2 * c) = nK s b c := by
    have : b + nB s b c = 2 * c * nK s b c := by omega
    rw [this]; exact Int.mul_tdiv_cancel_left _ (by omega)
  have hk : -2147483648 ≤ nK s b c ∧ nK s b c ≤ 2147483648 := by
    have e : b + nB s b c = 2 * c * nK s b c := by omega
    have e3 : ab (b + nB s b c) = 2 * (ab c * ab (nK s b c)) := by
      rw [e, ab_mul, ab_mul]
      have : ab 2 = 2 := rfl
      rw [this]; grind
    have h1 : ab (b + nB s b c) ≤ 2147483648 := by rcases ab_cases (b + nB s b c) with ⟨_, e⟩ | ⟨_, e⟩ <;> omega
    have hc1 : 1 ≤ ab c := by rcases ab_cases c with ⟨_, e⟩ | ⟨_, e⟩ <;> omega
    have p := Int.mul_le_mul_of_nonneg_right hc1 (ab_nonneg (nK s b c))
    rcases ab_cases (nK s b c) with ⟨_, e⟩ | ⟨_, e⟩ <;> omega
  rw [e1, e2]
  exact ⟨wi64_id (by omega) (by omega), wi64_id (by omega) (by omega), by simp; omega, by simp; omega⟩

theorem next_model (N : Nat) {d s a b c : Int} (hd : Cross d s) (h : Good d a b c) : cycle_next.f N a b c d s = some (c, nB s b c, nC s a b c, 0, -1, 1, nK s b c) := by
  obtain ⟨e1, e2, e3, e4⟩ := step_ends hd h
  obtain ⟨hne, hce⟩ := h.ane hd
  have := h.b0; have := h.b1; have := h.c0; have := h.c1
  have ha : 0 < ab c ∧ ab c ≤ 1073741824 := by rcases ab_cases c with ⟨h, e⟩ | ⟨h, e⟩ <;> omega
  have s0 := hd.root.s0
  have slt := hd.root.lt hd.d2
  have w1 : wi64 (2 * ab c) = 2 * ab c := wi64_id (by omega) (by omega)
  have w2 : wi64 (Int.tdiv (2 * ab c) 2) = ab c := by rw [Int.mul_tdiv_cancel_left _ (by decide)]; exact wi64_id (by omega) (by omega)
  have w3 : (2 * ab c == 0) = false := by simp; omega
  have key : ∀ t, t = top s c → 0 ≤ t → t ≤ 1073741824 → (bif decide (Int.tmod (wi64 (t + b)) (2 * ab c) < 0) then some (wi64 (t - wi64 (Int.tmod (wi64 (t + b)) (2 * ab c) + 2 * ab c))) else some (wi64 (t - Int.tmod (wi64 (t + b)) (2 * ab c)))) = some (nB s b c) := by
    intro t ht t0 t1
    rw [wi64_id (n := t + b) (by omega) (by omega)]
    have p1 := Int.emod_nonneg (t + b) (b := 2 * ab c) (by omega)
    have p2 := Int.emod_lt_of_pos (t + b) (b := 2 * ab c) (by omega)
    by_cases hm : Int.tmod (t + b) (2 * ab c) < 0
    · have := (tmod_pos (x := t + b) (y := 2 * ab c) (by omega)).1 hm
      simp only [hm, decide_true, cond_true, this]
      rw [wi64_id (n := (t + b) % (2 * ab c)) (by omega) (by omega), wi64_id (by omega) (by omega)]
      unfold nB; rw [ht]
    · have := (tmod_pos (x := t + b) (y := 2 * ab c) (by omega)).2 hm
      simp only [hm, decide_false, cond_false]
      rw [this, wi64_id (by omega) (by omega)]
      unfold nB; rw [ht]
  unfold cycle_next.f
  rw [(size_model N (by omega) (by omega)).1]
  simp only [Option.bind_some, w1, w2, w3, e3, e4, Bool.not_false, cond_true]
  by_cases hc : ab c > s
  · have k := key (ab c) (by unfold top; rw [if_pos hc]) (by omega) (by omega)
    simp only [hc, decide_true, cond_true]
    cases hm : decide (Int.tmod (wi64 (ab c + b)) (2 * ab c) < 0) <;> rw [hm] at k <;> simp only [cond_true, cond_false, Option.some.injEq] at k ⊢
    · rw [k, e1, e2]
    · rw [k, e1, e2]
  · have k := key s (by unfold top; rw [if_neg hc]) (by omega) (by omega)
    simp only [hc, decide_false, cond_false]
    cases hm : decide (Int.tmod (wi64 (s + b)) (2 * ab c) < 0) <;> rw [hm] at k <;> simp only [cond_true, cond_false, Option.some.injEq] at k ⊢
    · rw [k, e1, e2]
    · rw [k, e1, e2]

theorem Next_model {N : Nat} (hN : 8589934600 < N) {d s a b c : Int} (hd : Cross d s) (h : Good d a b c) : parquetref09_Next.f N a b c = some (c, nB s b c, nC s a b c, 0, -1, 1, nK s b c) := by
  obtain ⟨e1, e2, e3, e4⟩ := step_ends hd h
  obtain ⟨hne, hce⟩ := h.ane hd
  obtain ⟨r, hr, r1, r2⟩ := root_model hN hd.d1 hd.d2
  have hrs := hr.unique hd.root
  subst hrs
  have := h.b0; have := h.b1; have := h.c0; have := h.c1
  have ha : 0 < ab c ∧ ab c ≤ 1073741824 := by rcases ab_cases c with ⟨h, e⟩ | ⟨h, e⟩ <;> omega
  have s0 := hd.root.s0
  have slt := hd.root.lt hd.d2
  have w1 : wi64 (2 * ab c) = 2 * ab c := wi64_id (by omega) (by omega)
  have w3 : (2 * ab c == 0) = false := by simp; omega
  have w4 : wi64 (0 - b) = -b := by rw [wi64_id (by omega) (by omega)]; omega
  have w5 : wi64 (0 - ab c) = ab c - 2 * ab c := by rw [wi64_id (by omega) (by omega)]; omega
  have w6 : wi64 (r - 2 * ab c) = r - 2 * ab c := wi64_id (by omega) (by omega)
  obtain ⟨n1, n2, n3⟩ := nB_spec r b c hce
  have key : ∀ t, t = top r c → 0 ≤ t → t ≤ 1073741824 → (bif decide (Int.tmod (wi64 (-b - (t - 2 * ab c))) (2 * ab c) ≤ 0) then some (wi64 (wi64 (Int.tmod (wi64 (-b - (t - 2 * ab c))) (2 * ab c) + 2 * ab c) + (t - 2 * ab c))) else some (wi64 (Int.tmod (wi64 (-b - (t - 2 * ab c))) (2 * ab c) + (t - 2 * ab c)))) = some (nB r b c) := by
    intro t ht t0 t1
    rw [wi64_id (n := -b - (t - 2 * ab c)) (by omega) (by omega)]
    have q1 := Int.tmod_lt_of_pos (-b - (t - 2 * ab c)) (show 0 < 2 * ab c by omega)
    have q2 := Int.lt_tmod_of_pos (-b - (t - 2 * ab c)) (show 0 < 2 * ab c by omega)
    have q3 := Int.mul_tdiv_add_tmod (-b - (t - 2 * ab c)) (2 * ab c)
    have p3 := Int.mul_ediv_add_emod (t + b) (2 * ab c)
    -- two numbers of one rest in one row of rests
    have uniq : ∀ x q : Int, t - 2 * ab c < x → x ≤ t → x + b = 2 * ab c * q → x = nB r b c := by
      intro x q x1 x2 x3
      rw [← ht] at n1 n2
      have hn : nB r b c + b = 2 * ab c * ((t + b) / (2 * ab c)) := by unfold nB; rw [← ht]; omega
      generalize (t + b) / (2 * ab c) = q' at hn
      generalize nB r b c = y at *
      rcases Int.lt_trichotomy q q' with hq | hq | hq
      · exfalso
        have := Int.mul_le_mul_of_nonneg_left (show q + 1 ≤ q' by omega) (show 0 ≤ 2 * ab c by omega)
        have e : 2 * ab c * (q + 1) = 2 * ab c * q + 2 * ab c := by grind
        omega
      · subst hq; omega
      · exfalso
        have := Int.mul_le_mul_of_nonneg_left (show q' + 1 ≤ q by omega) (show 0 ≤ 2 * ab c by omega)
        have e : 2 * ab c * (q' + 1) = 2 * ab c * q' + 2 * ab c := by grind
        omega
    by_cases hm : Int.tmod (-b - (t - 2 * ab c)) (2 * ab c) ≤ 0
    · simp only [hm, decide_true, cond_true]
      rw [wi64_id (n := Int.tmod (-b - (t - 2 * ab c)) (2 * ab c) + 2 * ab c) (by omega) (by omega), wi64_id (by omega) (by omega)]
      congr 1
      refine uniq _ (1 - Int.tdiv (-b - (t - 2 * ab c)) (2 * ab c)) (by omega) (by omega) ?_
      have e : 2 * ab c * (1 - Int.tdiv (-b - (t - 2 * ab c)) (2 * ab c)) = 2 * ab c - 2 * ab c * Int.tdiv (-b - (t - 2 * ab c)) (2 * ab c) := by grind
      omega
    · simp only [hm, decide_false, cond_false]
      rw [wi64_id (by omega) (by omega)]
      congr 1
      refine uniq _ (- Int.tdiv (-b - (t - 2 * ab c)) (2 * ab c)) (by omega) (by omega) ?_
      have e : 2 * ab c * (- Int.tdiv (-b - (t - 2 * ab c)) (2 * ab c)) = - (2 * ab c * Int.tdiv (-b - (t - 2 * ab c)) (2 * ab c)) := by grind
      omega
  unfold parquetref09_Next.f
  rw [disc_id h, r2, (size_model N (by omega) (by omega)).2]
  simp only [Option.bind_some, w1, w3, w4, w5, w6, e3, e4, Bool.not_false, cond_true]
  by_cases hc : ab c > r
  · have k := key (ab c) (by unfold top; rw [if_pos hc]) (by omega) (by omega)
    simp only [hc, decide_true, cond_true]
    cases hm : decide (Int.tmod (wi64 (-b - (ab c - 2 * ab c))) (2 * ab c) ≤ 0) <;> rw [hm] at k <;> simp only [cond_true, cond_false, Option.some.injEq] at k ⊢
    · rw [k, e1, e2]
    · rw [k, e1, e2]
  · have k := key r (by unfold top; rw [if_neg hc]) (by omega) (by omega)
    simp only [hc, decide_false, cond_false]
    cases hm : decide (Int.tmod (wi64 (-b - (r - 2 * ab c))) (2 * ab c) ≤ 0) <;> rw [hm] at k <;> simp only [cond_true, cond_false, Option.some.injEq] at k ⊢
    · rw [k, e1, e2]
    · rw [k, e1, e2]

end Go.Proofs.Ytlofhdoefjmabaa.Pure
