-- Plain laws of the row law01: the document's numbers: bits, comparing, dividing, texts.
import Derived.Test.YtbnoablfajmaeaaGreatNg
import Derived.KernelRfl
namespace Go.Proofs.YtbnoablfajmaeaaGreat.NatL
open Go Go.Proofs.YtbnoablfajmaeaaGreat.Ev
set_option linter.unusedVariables false
set_option linter.unusedSimpArgs false

theorem radd_enc {N : Nat} (hN : 1000000001 < N) {u v : Int} (hu : 0 ≤ u) (hv : 0 ≤ v) (hl : (enc (65536 : Int) u).length ≤ 1000000) (hl' : (enc (65536 : Int) v).length ≤ 1000000) : parquetref01_Add.f N (enc (65536 : Int) u) (enc (65536 : Int) v) = some (enc (65536 : Int) (u + v)) := by
  obtain ⟨h1, h2⟩ := enc_spec H2 hu
  obtain ⟨h3, h4⟩ := enc_spec H2 hv
  rw [radd_model hN h1.dig h3.dig hl hl', h2, h4]

theorem rmul_enc {N : Nat} (hN : 1000000001 < N) {u v : Int} (hu : 0 ≤ u) (hv : 0 ≤ v) (hl : (enc (65536 : Int) u).length ≤ 1000000) (hl' : (enc (65536 : Int) v).length ≤ 1000000) : parquetref01_Mul.f N (enc (65536 : Int) u) (enc (65536 : Int) v) = some (enc (65536 : Int) (u * v)) := by
  obtain ⟨h1, h2⟩ := enc_spec H2 hu
  obtain ⟨h3, h4⟩ := enc_spec H2 hv
  rw [rmul_model hN h1.dig h3.dig hl hl', h2, h4]

/- Bits -/
theorem half_blen {x : Int} (h : 0 < x) : blen x = blen (x / 2) + 1 := by
  rcases Int.lt_or_le x 2 with h1 | h1
  · have : x = 1 := by omega
    subst this
    decide +kernel
  · have := blen_shift (v := x) 1 (by simpa using h1)
    have e : (2 : Int) ^ 1 = 2 := by decide
    rw [e] at this
    omega

theorem rbits_loop (N : Nat) {R : Type} (K0 : Int → Option R) : ∀ (n : Nat) (x c : Int), 0 ≤ x → x < 4294967296 → blen x < n → 0 ≤ c → c ≤ 4000000000 → parquetref01_Bits.l5 N n c x K0 = K0 (c + blen x) := by
  intro n
  induction n with
  | zero => intro x c _ _ h; have := blen_nonneg x; omega
  | succ n ih =>
    intro x c x0 x1 hn c0 c1
    rw [parquetref01_Bits.l5]
    by_cases hx : x > 0
    · have d : decide (x > 0) = true := decide_eq_true hx
      have hb := half_blen hx
      have hbb := blen_bound x0 32 (by omega)
      rw [d, tdiv_nn x0, wu32_id (by omega) (by omega), wi64_id (by omega) (by omega)]
      simp only [cond_true]
      by_cases hc : c + 1 ≤ 4000000000
      · rw [ih (x / 2) (c + 1) (by omega) (by omega) (by omega) (by omega) hc, hb]
        congr 1; omega
      · -- the bound, by one more
        have hn0 := blen_nonneg (x / 2)
        have key : ∀ (n : Nat) (x c : Int), 0 ≤ x → x < 4294967296 → blen x < n → 0 ≤ c → c + blen x ≤ 5000000000 → parquetref01_Bits.l5 N n c x K0 = K0 (c + blen x) := by
          intro n
          induction n with
          | zero => intro x c _ _ h; have := blen_nonneg x; omega
          | succ n ih =>
            intro x c x0 x1 hn c0 c1
            have hn1 := blen_nonneg x
            rw [parquetref01_Bits.l5]
            by_cases hx : x > 0
            · have d : decide (x > 0) = true := decide_eq_true hx
              have hb := half_blen hx
              rw [d, tdiv_nn x0, wu32_id (by omega) (by omega), wi64_id (by omega) (by omega)]
              simp only [cond_true]
              rw [ih (x / 2) (c + 1) (by omega) (by omega) (by omega) (by omega) (by omega), hb]
              congr 1; omega
            · have d : decide (x > 0) = false := decide_eq_false hx
              have : x = 0 := by omega
              subst this
              rw [d]
              have : blen 0 = 0 := by decide +kernel
              rw [this]; simp
        rw [key n (x / 2) (c + 1) (by omega) (by omega) (by omega) (by omega) (by omega), hb]
        congr 1; omega
    · have d : decide (x > 0) = false := decide_eq_false hx
      have : x = 0 := by omega
      subst this
      rw [d]
      have : blen 0 = 0 := by decide +kernel
      rw [this]; simp

theorem canH_blen {l : List Int} (h : Can (65536 : Int) l) (hne : l ≠ []) : blen (nv (65536 : Int) l) = 16 * ((l.length : Int) - 1) + blen (l.getD (l.length - 1) 0) := by
  have hl : 0 < l.length := List.length_pos_iff.mpr hne
  have h1 := nv_take_succ (65536 : Int) l (l.length - 1) (by omega)
  have e : l.length - 1 + 1 = l.length := by omega
  rw [e, List.take_length] at h1
  have h2 := nv_bound (show 0 < (65536 : Int) by decide) (h.dig.take (l.length - 1))
  have e3 : (l.take (l.length - 1)).length = l.length - 1 := by rw [List.length_take]; omega
  rw [e3] at h2
  have h4 := h.lower (by decide) hne
  have hp : (0 : Int) < (65536 : Int) ^ (l.length - 1) := Int.pow_pos (by decide)
  have hq : nv (65536 : Int) l / (65536 : Int) ^ (l.length - 1) = l.getD (l.length - 1) 0 := by
    rw [h1, Int.add_mul_ediv_left _ _ (by omega), Int.ediv_eq_zero_of_lt h2.1 h2.2]; simp
  rw [blen_shift (16 * (l.length - 1)) (by rw [← Hpow]; exact h4), ← Hpow, hq]
  omega

theorem rbits_enc {N : Nat} (hN : 1000000001 < N) {v : Int} (hv : 0 ≤ v) (hl : (enc (65536 : Int) v).length ≤ 100000000) : parquetref01_Bits.f N (enc (65536 : Int) v) = some (blen v) := by
  obtain ⟨h1, h2⟩ := enc_spec H2 hv
  have h2' := h2
  generalize enc (65536 : Int) v = l at *
  rw [← h2']
  unfold parquetref01_Bits.f
  by_cases hne : l = []
  · subst hne; rfl
  · have hlp : 0 < l.length := List.length_pos_iff.mpr hne
    have c0 : ((l.length : Int) == 0) = false := by simp; omega
    have e1 : wi64 ((l.length : Int) - 1) = (l.length : Int) - 1 := wi64_id (by omega) (by omega)
    have e2 : ((l.length : Int) - 1).toNat = l.length - 1 := by omega
    have hd := h1.dig.get (by decide) (l.length - 1)
    have hb := blen_bound hd.1 16 (by omega)
    have c1 : (decide (0 ≤ (l.length : Int) - 1) && decide ((l.length : Int) - 1 < (l.length : Int))) = true := by simp; omega
    rw [c0, e1, e2, c1, wi64_id (by omega) (by omega)]
    simp only [cond_true, cond_false]
    rw [rbits_loop N _ N _ _ hd.1 (by omega) (by omega) (by omega) (by omega), canH_blen h1 hne]

/- Comparing -/
theorem rcmp_loop (N : Nat) {R : Type} (a c : List Int) (hl : a.length = c.length) (ha : Dig (65536 : Int) a) (hc : Dig (65536 : Int) c) (hs : a.length ≤ 1000000000) (K0 : Unit → Option R) (Kr : Int → Option R) : ∀ (n i : Nat), i ≤ a.length → i < n →
    parquetref01_Cmp.l6 N n a c ((i : Int) - 1) K0 Kr = if nv (65536 : Int) (a.take i) = nv (65536 : Int) (c.take i) then K0 () else Kr (if nv (65536 : Int) (a.take i) < nv (65536 : Int) (c.take i) then -1 else 1) := by
  intro n
  induction n with
  | zero => intro i _ h; omega
  | succ n ih =>
    intro i hi hn
    rw [parquetref01_Cmp.l6]
    cases i with
    | zero => rfl
    | succ i =>
      have e0 : ((i + 1 : Nat) : Int) - 1 = (i : Int) := by omega
      have e1 : wi64 ((i : Int) - 1) = (i : Int) - 1 := wi64_id (by omega) (by omega)
      rw [e0, e1]
      have c0 : decide ((i : Int) ≥ 0) = true := decide_eq_true (by omega)
      have c1 : (decide (0 ≤ (i : Int)) && decide ((i : Int) < (a.length : Int))) = true := by simp; omega
      have c2 : (decide (0 ≤ (i : Int)) && decide ((i : Int) < (c.length : Int))) = true := by simp; omega
      have e2 : (i : Int).toNat = i := by omega
      rw [c1, c2, c0, e2]
      simp only [cond_true]
      have ta := nv_take_succ (65536 : Int) a i (by omega)
      have tc := nv_take_succ (65536 : Int) c i (by omega)
      have ba := nv_bound (show 0 < (65536 : Int) by decide) (ha.take i)
      have bc := nv_bound (show 0 < (65536 : Int) by decide) (hc.take i)
      have la : (a.take i).length = i := by rw [List.length_take]; omega
      have lc : (c.take i).length = i := by rw [List.length_take]; omega
      rw [la] at ba
      rw [lc] at bc
      have hp : (0 : Int) < (65536 : Int) ^ i := Int.pow_pos (by decide)
      by_cases h1 : a.getD i 0 < c.getD i 0
      · simp only [h1, decide_true, cond_true]
        have := Int.mul_le_mul_of_nonneg_left (show a.getD i 0 + 1 ≤ c.getD i 0 by omega) (Int.le_of_lt hp)
        have e : (65536 : Int) ^ i * (a.getD i 0 + 1) = (65536 : Int) ^ i * a.getD i 0 + (65536 : Int) ^ i := by grind
        rw [if_neg (by omega), if_pos (by omega)]
      · simp only [h1, decide_false, cond_false]
        by_cases h2 : a.getD i 0 > c.getD i 0
        · simp only [h2, decide_true, cond_true]
          have := Int.mul_le_mul_of_nonneg_left (show c.getD i 0 + 1 ≤ a.getD i 0 by omega) (Int.le_of_lt hp)
          have e : (65536 : Int) ^ i * (c.getD i 0 + 1) = (65536 : Int) ^ i * c.getD i 0 + (65536 : Int) ^ i := by grind
          rw [if_neg (by omega), if_neg (by omega)]
        · simp only [h2, decide_false, cond_false]
          have heq : a.getD i 0 = c.getD i 0 := by omega
          rw [ih i (by omega) (by omega), ta, tc, heq]
          generalize (65536 : Int) ^ i * c.getD i 0 = p
          generalize nv (65536 : Int) (a.take i) = x
          generalize nv (65536 : Int) (c.take i) = y
          by_cases h3 : x = y
          · rw [if_pos h3, if_pos (by rw [h3])]
          · have n1 : ¬ (x + p = y + p) := by omega
            rw [if_neg h3, if_neg n1]
            by_cases h4 : x < y
            · have n2 : x + p < y + p := by omega
              rw [if_pos h4, if_pos n2]
            · have n2 : ¬ x + p < y + p := by omega
              rw [if_neg h4, if_neg n2]

theorem rcmp_enc {N : Nat} (hN : 1000000001 < N) {u v : Int} (hu : 0 ≤ u) (hv : 0 ≤ v) (hs : (enc (65536 : Int) u).length ≤ 1000000000) : parquetref01_Cmp.f N (enc (65536 : Int) u) (enc (65536 : Int) v) = some (cmp u v) := by
  obtain ⟨ha, hu'⟩ := enc_spec H2 hu
  obtain ⟨hc, hv'⟩ := enc_spec H2 hv
  generalize enc (65536 : Int) u = a at *
  generalize enc (65536 : Int) v = c at *
  subst hu'
  subst hv'
  unfold parquetref01_Cmp.f cmp
  by_cases hl : a.length = c.length
  · have c0 : ((a.length : Int) != (c.length : Int)) = false := by simp; omega
    have e1 : wi64 ((a.length : Int) - 1) = (a.length : Int) - 1 := wi64_id (by omega) (by omega)
    rw [c0, e1]
    simp only [cond_false]
    rw [rcmp_loop N a c hl ha.dig hc.dig hs _ _ N a.length (Nat.le_refl _) (by omega), List.take_length, hl, List.take_length]
    split
    · rfl
    · rfl
  · have c0 : ((a.length : Int) != (c.length : Int)) = true := by simp; omega
    rw [c0]
    simp only [cond_true]
    rcases Nat.lt_or_gt_of_ne hl with h | h
    · have := canH_len ha hc h
      have c1 : decide ((a.length : Int) < (c.length : Int)) = true := decide_eq_true (by omega)
      rw [c1, if_neg (by omega), if_pos this]; rfl
    · have := canH_len hc ha h
      have c1 : decide ((a.length : Int) < (c.length : Int)) = false := decide_eq_false (by omega)
      rw [c1, if_neg (by omega), if_neg (by omega)]; rfl

/- A machine's number -/
theorem rsmall_loop (N : Nat) {R : Type} (l : List Int) (hd : Dig (65536 : Int) l) (hl : l.length ≤ 4) (K0 : Int → Option R) : ∀ (n j : Nat), j ≤ l.length → j < n →
    parquetref01_Small.l5 N n l (nv (65536 : Int) (l.drop j)) ((j : Int) - 1) K0 = K0 (nv (65536 : Int) l) := by
  intro n
  induction n with
  | zero => intro j _ h; omega
  | succ n ih =>
    intro j hj hn
    rw [parquetref01_Small.l5]
    cases j with
    | zero => rfl
    | succ j =>
      have e0 : ((j + 1 : Nat) : Int) - 1 = (j : Int) := by omega
      have e1 : wi64 ((j : Int) - 1) = (j : Int) - 1 := wi64_id (by omega) (by omega)
      have c0 : decide ((j : Int) ≥ 0) = true := decide_eq_true (by omega)
      have c1 : (decide (0 ≤ (j : Int)) && decide ((j : Int) < (l.length : Int))) = true := by simp; omega
      have e2 : (j : Int).toNat = j := by omega
      have hb := nv_bound (show 0 < (65536 : Int) by decide) (hd.drop (j + 1))
      have hm := hpow_mono (show (l.drop (j + 1)).length ≤ 3 by rw [List.length_drop]; omega)
      have h3 : (65536 : Int) ^ 3 = 281474976710656 := by decide
      have hx := hd.get (by decide) j
      have hdr := nv_drop (65536 : Int) l j (by omega)
      rw [e0, e1, c1, c0, e2]
      simp only [cond_true]
      rw [wu64_id (n := l.getD j 0) (by omega) (by omega), wu64_id (n := nv (65536 : Int) (l.drop (j + 1)) * 65536) (by omega) (by omega), wu64_id (by omega) (by omega)]
      have : nv (65536 : Int) (l.drop (j + 1)) * 65536 + l.getD j 0 = nv (65536 : Int) (l.drop j) := by omega
      rw [this]
      exact ih j (by omega) (by omega)

theorem rsmall_enc {N : Nat} (hN : 1000000001 < N) {v : Int} (hv : 0 ≤ v) : parquetref01_Small.f N (enc (65536 : Int) v) = some (if v < 18446744073709551616 then (v, true) else (0, false)) := by
  obtain ⟨h1, h2⟩ := enc_spec H2 hv
  have h4 : (65536 : Int) ^ 4 = 18446744073709551616 := by decide
  unfold parquetref01_Small.f
  by_cases hb : v < 18446744073709551616
  · have hl := encH_len hv (k := 4) (by omega)
    have c : decide (((enc (65536 : Int) v).length : Int) > 4) = false := decide_eq_false (by omega)
    have e1 : wi64 (((enc (65536 : Int) v).length : Int) - 1) = ((enc (65536 : Int) v).length : Int) - 1 := wi64_id (by omega) (by omega)
    rw [c, if_pos hb, e1]
    have := rsmall_loop N (enc (65536 : Int) v) h1.dig hl (fun y6 => some (y6, true)) N (enc (65536 : Int) v).length (Nat.le_refl _) (by omega)
    rw [List.drop_length] at this
    simp only [nv, h2] at this
    exact this
  · have hl : 4 < (enc (65536 : Int) v).length := by
      rcases Nat.lt_or_ge 4 (enc (65536 : Int) v).length with h | h
      · exact h
      · have := nv_bound (show 0 < (65536 : Int) by decide) h1.dig
        have := hpow_mono h
        omega
    have c : decide (((enc (65536 : Int) v).length : Int) > 4) = true := decide_eq_true (by omega)
    rw [c, if_neg hb]; rfl

/- Dividing -/
theorem encH_len_mul {u v : Int} (hu : 0 ≤ u) (hv : 0 ≤ v) : (enc (65536 : Int) (u * v)).length ≤ (enc (65536 : Int) u).length + (enc (65536 : Int) v).length := by
  obtain ⟨h1, h2⟩ := enc_spec H2 hu
  obtain ⟨h3, h4⟩ := enc_spec H2 hv
  refine encH_len (Int.mul_nonneg hu hv) ?_
  have b1 := nv_bound (show 0 < (65536 : Int) by decide) h1.dig
  have b2 := nv_bound (show 0 < (65536 : Int) by decide) h3.dig
  rw [h2] at b1
  rw [h4] at b2
  rw [Int.pow_add]
  have hp : (0 : Int) < (65536 : Int) ^ (enc (65536 : Int) u).length := Int.pow_pos (by decide)
  have m1 := Int.mul_le_mul_of_nonneg_right (show u ≤ (65536 : Int) ^ (enc (65536 : Int) u).length by omega) hv
  have m2 := Int.mul_lt_mul_of_pos_left b2.2 hp
  omega

theorem encH_mono {u v : Int} (hu : 0 ≤ u) (h : u ≤ v) : (enc (65536 : Int) u).length ≤ (enc (65536 : Int) v).length := by
  obtain ⟨h3, h4⟩ := enc_spec H2 (show 0 ≤ v by omega)
  have b2 := nv_bound (show 0 < (65536 : Int) by decide) h3.dig
  exact encH_len hu (by omega)

/-- The digit: between what goes and what doesn't. -/
theorem search_loop {N : Nat} (hN : 1000000001 < N) {R : Type} {b r : Int} (hb : 0 < b) (hr : 0 ≤ r) (hbl : (enc (65536 : Int) b).length ≤ 900000) (hrl : (enc (65536 : Int) r).length ≤ 900000) (a : List Int) (m : Nat) (w : List Int) (hw : (w.drop 0).take m = enc (65536 : Int) r) (i : Int) (q : List Int) (K0 : List Int → List Int → Nat → Nat → Int → Int → List Int → List Int → Option R) : ∀ (n : Nat) (lo hi : Int), 0 ≤ lo → lo < hi → hi ≤ 65536 → lo * b ≤ r → r < hi * b → hi - lo < n →
    parquetref01_Div.l9 N n a (enc (65536 : Int) b) 0 m i lo hi q w K0 = K0 a (enc (65536 : Int) b) 0 m i (r / b) q w := by
  intro n
  induction n with
  | zero => intro lo hi _ _ _ _ _ h; omega
  | succ n ih =>
    intro lo hi l0 lh h1 g1 g2 hn
    rw [parquetref01_Div.l9]
    rw [wu64_id (n := hi - lo) (by omega) (by omega)]
    by_cases hc : hi - lo > 1
    · have d : decide (hi - lo > 1) = true := decide_eq_true hc
      rw [d, wu64_id (n := lo + hi) (by omega) (by omega), tdiv_nn (by omega), wu64_id (n := (lo + hi) / 2) (by omega) (by omega), rof_model hN (by omega) (by omega)]
      simp only [cond_true, Option.bind_some]
      have hm0 : 0 ≤ (lo + hi) / 2 := by omega
      have p2 : (65536 : Int) ^ 2 = 4294967296 := by decide
      have hml : (enc (65536 : Int) ((lo + hi) / 2)).length ≤ 2 := encH_len hm0 (by omega)
      have hp0 := Int.mul_nonneg hm0 (Int.le_of_lt hb)
      have hpl := encH_len_mul hm0 (Int.le_of_lt hb)
      rw [rmul_enc hN hm0 (by omega) (by omega) (by omega)]
      simp only [Option.bind_some]
      rw [hw, rcmp_enc hN hp0 hr (by omega)]
      simp only [Option.bind_some]
      by_cases hle : (lo + hi) / 2 * b ≤ r
      · have d2 : decide (cmp ((lo + hi) / 2 * b) r ≤ 0) = true := by
          refine decide_eq_true ?_
          unfold cmp; split
          · omega
          · split <;> omega
        rw [d2]
        exact ih ((lo + hi) / 2) hi hm0 (by omega) h1 hle g2 (by omega)
      · have d2 : decide (cmp ((lo + hi) / 2 * b) r ≤ 0) = false := by
          refine decide_eq_false ?_
          unfold cmp; split
          · omega
          · split <;> omega
        rw [d2]
        exact ih lo ((lo + hi) / 2) l0 (by omega) (by omega) g1 (by omega) (by omega)
    · have d : decide (hi - lo > 1) = false := decide_eq_false hc
      rw [d]
      have : hi = lo + 1 := by omega
      subst this
      have : r / b = lo := by
        have e : (lo + 1) * b = lo * b + b := by grind
        have := (Int.ediv_emod_unique (a := r) (r := r - lo * b) (q := lo) hb).mpr ⟨by rw [Int.mul_comm b lo]; omega, by omega, by omega⟩
        exact this.1
      rw [this]
      rfl

theorem rdiv_loop {N : Nat} (hN : 1000000001 < N) {R : Type} {b : Int} (hb : 0 < b) (hbl : (enc (65536 : Int) b).length ≤ 800000) {a : List Int} (ha : Dig (65536 : Int) a) (hal : a.length ≤ 800000) (K0 : List Int → List Int → Option R) : ∀ (n j : Nat) (r : Int) (q : List Int), j ≤ a.length → j < n → 0 ≤ r → r < b → Dig (65536 : Int) q → q.length = a.length → nv (65536 : Int) (a.drop j) = b * nv (65536 : Int) (q.drop j) + r → (∀ k, k < j → q.getD k 0 = 0) →
    ∃ q', Dig (65536 : Int) q' ∧ q'.length = a.length ∧ nv (65536 : Int) q' = nv (65536 : Int) a / b ∧ parquetref01_Div.l4 N n a (enc (65536 : Int) b) (enc (65536 : Int) r) ((j : Int) - 1) q K0 = K0 (enc (65536 : Int) (nv (65536 : Int) a % b)) q' := by
  intro n
  induction n with
  | zero => intro j r q _ h; omega
  | succ n ih =>
    intro j r q hj hn r0 r1 hq hql hv hz
    rw [parquetref01_Div.l4]
    cases j with
    | zero =>
      simp only [List.drop_zero] at hv
      have hu := (Int.ediv_emod_unique (a := nv (65536 : Int) a) (r := r) (q := nv (65536 : Int) q) hb).mpr ⟨by omega, r0, r1⟩
      refine ⟨q, hq, hql, hu.1.symm, ?_⟩
      rw [hu.2]; rfl
    | succ j =>
      have e0 : ((j + 1 : Nat) : Int) - 1 = (j : Int) := by omega
      have e1 : wi64 ((j : Int) - 1) = (j : Int) - 1 := wi64_id (by omega) (by omega)
      have c0 : decide ((j : Int) ≥ 0) = true := decide_eq_true (by omega)
      have c1 : (decide (0 ≤ (j : Int)) && decide ((j : Int) < (a.length : Int))) = true := by simp; omega
      have c2 : (decide (0 ≤ (j : Int)) && decide ((j : Int) < (q.length : Int))) = true := by simp; omega
      have e2 : (j : Int).toNat = j := by omega
      have hx := ha.get (by decide) j
      obtain ⟨h1, h2⟩ := enc_spec H2 r0
      have hrl := encH_mono r0 (Int.le_of_lt r1)
      rw [e0, c1, c0, e2, roomy4 (by omega)]
      simp only [cond_true]
      -- the rest with one digit more
      have hd : Dig (65536 : Int) ([a.getD j 0] ++ enc (65536 : Int) r) := Dig.cons hx.1 hx.2 h1.dig
      have hnv : nv (65536 : Int) ([a.getD j 0] ++ enc (65536 : Int) r) = r * 65536 + a.getD j 0 := by simp only [List.singleton_append, nv, h2]; omega
      have hlen : ([a.getD j 0] ++ enc (65536 : Int) r).length = (enc (65536 : Int) r).length + 1 := by simp
      rw [rcut_model hN _ _ (Nat.le_refl _) (by omega)]
      simp only [Option.bind_some]
      have hcut := cutH_enc hd
      rw [hnv] at hcut
      generalize hs : r * 65536 + a.getD j 0 = s at *
      have s0 : 0 ≤ s := by omega
      have hsl : (enc (65536 : Int) s).length ≤ 800001 := by rw [← hcut]; have := cutL_len ([a.getD j 0] ++ enc (65536 : Int) r); omega
      have hub : s < 65536 * b := by
        have := Int.mul_le_mul_of_nonneg_left (show r + 1 ≤ b by omega) (show (0 : Int) ≤ 65536 by decide)
        omega
      rw [search_loop hN hb s0 (by omega) (by omega) a (cutN ([a.getD j 0] ++ enc (65536 : Int) r) ([a.getD j 0] ++ enc (65536 : Int) r).length) ([a.getD j 0] ++ enc (65536 : Int) r) (by rw [List.drop_zero]; exact hcut) (j : Int) q _ N 0 65536 (by omega) (by omega) (by omega) (by omega) hub (by omega)]
      rw [c2]
      simp only [cond_true]
      have d1 := Int.mul_ediv_add_emod s b
      have d2 := Int.emod_nonneg s (b := b) (by omega)
      have d3 := Int.emod_lt_of_pos s hb
      have q0 : 0 ≤ s / b := Int.ediv_nonneg s0 (by omega)
      have q1 : s / b < 65536 := by rw [Int.ediv_lt_iff_lt_mul hb]; omega
      rw [rof_model hN q0 (by omega)]
      simp only [Option.bind_some]
      have p1 : (65536 : Int) ^ 1 = 65536 := by decide
      have hqll : (enc (65536 : Int) (s / b)).length ≤ 1 := encH_len q0 (by omega)
      have hp0 := Int.mul_nonneg q0 (Int.le_of_lt hb)
      rw [rmul_enc hN q0 (by omega) (by omega) (by omega)]
      simp only [Option.bind_some, List.drop_zero]
      have hcut' : List.take (cutN ([a.getD j 0] ++ enc (65536 : Int) r) ([a.getD j 0] ++ enc (65536 : Int) r).length) ([a.getD j 0] ++ enc (65536 : Int) r) = enc (65536 : Int) s := hcut
      rw [hcut', Int.mul_comm (s / b) b, rsub_enc hN (by rw [Int.mul_comm]; exact hp0) (by omega) (by omega)]
      simp only [Option.bind_some]
      have hrest : s - b * (s / b) = s % b := by omega
      rw [hrest, e1, wu32_id q0 (by omega)]
      refine ih j (s % b) (q.set j (s / b)) (by omega) (by omega) d2 d3 (hq.set _ q0 q1) (by simpa using hql) ?_ (fun k hk => ?_)
      · have hdrop : (q.set j (s / b)).drop (j + 1) = q.drop (j + 1) := by simp [List.drop_set]
        have hget : (q.set j (s / b)).getD j 0 = s / b := by
          rw [List.getD_eq_getElem?_getD, List.getElem?_set_self (by omega)]; rfl
        rw [nv_drop' (65536 : Int) a j, nv_drop' (65536 : Int) (q.set j (s / b)) j, hdrop, hget, hv]
        generalize s / b = z at *
        generalize s % b = m at *
        have em : m = s - b * z := by omega
        subst em
        subst hs
        grind
      · have := hz k (by omega)
        simp only [List.getD_eq_getElem?_getD, List.getElem?_set] at this ⊢
        rw [if_neg (by omega)]
        exact this

theorem rdiv_enc {N : Nat} (hN : 1000000001 < N) {u v : Int} (hu : 0 ≤ u) (hv : 0 < v) (hl : (enc (65536 : Int) u).length ≤ 800000) (hl' : (enc (65536 : Int) v).length ≤ 800000) : parquetref01_Div.f N (enc (65536 : Int) u) (enc (65536 : Int) v) = some (enc (65536 : Int) (u / v), enc (65536 : Int) (u % v)) := by
  obtain ⟨h1, h2⟩ := enc_spec H2 hu
  unfold parquetref01_Div.f
  have et : ((enc (65536 : Int) u).length : Int).toNat = (enc (65536 : Int) u).length := by omega
  have e1 : wi64 (((enc (65536 : Int) u).length : Int) - 1) = ((enc (65536 : Int) u).length : Int) - 1 := wi64_id (by omega) (by omega)
  rw [make_ok (by omega) (by omega), et, e1]
  simp only [cond_true]
  obtain ⟨q, q1, q2, q3, q4⟩ := rdiv_loop hN hv hl' h1.dig hl (fun y42 y43 => (parquetref01_cut.f N 0 y43.length y43).bind fun r44 => some ((r44.2.2.drop r44.1).take r44.2.1, y42)) N (enc (65536 : Int) u).length 0 (List.replicate (enc (65536 : Int) u).length 0) (Nat.le_refl _) (by omega) (by omega) hv (Dig.replicate (by decide) _) (by simp) (by rw [List.drop_length, List.drop_eq_nil_iff.mpr (by simp)]; simp [nv]) (fun k hk => by rw [List.getD_eq_getElem?_getD, List.getElem?_replicate]; split <;> rfl)
  rw [enc_zero H2] at q4
  rw [q4, rcut_model hN q _ (Nat.le_refl _) (by omega)]
  have := cutH_enc q1
  rw [q3, h2] at this
  rw [h2]
  simp only [Option.bind_some, List.drop_zero]
  rw [← this]
  rfl


end Go.Proofs.YtbnoablfajmaeaaGreat.NatL
