-- Plain laws of the row law08: words, turns made of steps; BinaryTurns.
import Derived.Test.YtckddgepjhclpaaNj
import Derived.Test.YtckddgepjhclpaaT5
namespace Go.Proofs.Ytckddgepjhclpaa.NatL
open Go Go.Proofs.Ytckddgepjhclpaa.Ev
set_option linter.unusedVariables false
set_option linter.unusedSimpArgs false

/- A word's sums and products do not mind words within. -/
theorem wi64_eq (n : Int) : wi64 n = Int.bmod n 18446744073709551616 := by
  simp only [wi64, IntKind.wrap]
  simp [IntKind.bits, IntKind.signed, Int.bmod]
  omega
theorem w_add_l (x y : Int) : wi64 (wi64 x + y) = wi64 (x + y) := by simp only [wi64_eq, Int.bmod_add_bmod]
theorem w_add_r (x y : Int) : wi64 (x + wi64 y) = wi64 (x + y) := by simp only [wi64_eq, Int.add_bmod_bmod]
theorem w_sub_l (x y : Int) : wi64 (wi64 x - y) = wi64 (x - y) := by simp only [wi64_eq, Int.bmod_sub_bmod]
theorem w_sub_r (x y : Int) : wi64 (x - wi64 y) = wi64 (x - y) := by simp only [wi64_eq, Int.sub_bmod_bmod]
theorem w_mul_l (x y : Int) : wi64 (wi64 x * y) = wi64 (x * y) := by simp only [wi64_eq, Int.bmod_mul_bmod]
theorem w_mul_r (x y : Int) : wi64 (x * wi64 y) = wi64 (x * y) := by simp only [wi64_eq, Int.mul_bmod_bmod]
theorem w_w (x : Int) : wi64 (wi64 x) = wi64 x := by have := w_add_l x 0; rwa [Int.add_zero, Int.add_zero] at this

theorem tmod_bd (k m : Int) (hm : 0 < m) : -m < Int.tmod k m ∧ Int.tmod k m < m := ⟨Int.lt_tmod_of_pos k hm, Int.tmod_lt_of_pos k hm⟩

theorem Bd.le {x X Y : Int} (h : Bd x X) (hx : X ≤ Y) : Bd x Y := by unfold Bd at *; omega
theorem Bd.neg {x X : Int} (h : Bd x X) : Bd (-x) X := by unfold Bd at *; omega
theorem Bd.w {x X : Int} (h : Bd x X) (hX : X < 9223372036854775808) : wi64 x = x := by unfold Bd at h; exact wi64_id (by omega) (by omega)
theorem Bd.W {x X : Int} (h : Bd x X) (hX : X < 9223372036854775808) : W64 x := by unfold Bd at h; unfold W64; omega

/-- Bounds of a turn of steps. -/
theorem turn_loop {N : Nat} {R : Type} (len : Nat) (l : List Int) (sw : List Bool) (x8 x9 x10 x11 : Int) (k0 : Int → Int → Int → Int → Int → Int → Int → Int → Option R) :
    ∀ (j n i : Nat) (M P Q R' S : Int), i + j = 12 → j < n → 0 < M → M * 4 ^ j ≤ 16777216 → Bd P M → Bd Q M → Bd R' M → Bd S M → P * S - Q * R' = 1 →
      ∃ p q r s, Bd p 16777216 ∧ Bd q 16777216 ∧ Bd r 16777216 ∧ Bd s 16777216 ∧ p * s - q * r = 1 ∧ parquetlaw08_turn.l3 N n len l sw (i : Int) x8 x9 x10 x11 P Q R' S k0 = k0 x8 x9 x10 x11 p q r s
  | j, 0, i, M, P, Q, R', S, hij, hn, _, _, _, _, _, _, _ => absurd hn (Nat.not_lt_zero _)
  | j, n + 1, i, M, P, Q, R', S, hij, hn, hM, hMj, hP, hQ, hR, hS, hd => by
    have hle : M ≤ 16777216 := by
      have : (0 : Int) < 4 ^ j := Int.pow_pos (by decide)
      have h1 := Int.mul_le_mul_of_nonneg_left (show (1 : Int) ≤ 4 ^ j by omega) (Int.le_of_lt hM)
      omega
    have stop : ∃ p q r s, Bd p 16777216 ∧ Bd q 16777216 ∧ Bd r 16777216 ∧ Bd s 16777216 ∧ p * s - q * r = 1 ∧ k0 x8 x9 x10 x11 P Q R' S = k0 x8 x9 x10 x11 p q r s :=
      ⟨P, Q, R', S, hP.le hle, hQ.le hle, hR.le hle, hS.le hle, hd, rfl⟩
    rw [parquetlaw08_turn.l3]
    by_cases h1 : (i : Int) < (len : Int)
    · by_cases h2 : (i : Int) < 12
      · have e1 : decide ((i : Int) < (len : Int)) = true := decide_eq_true h1
        have e2 : decide ((i : Int) < 12) = true := decide_eq_true h2
        have e3 : (decide (0 ≤ (i : Int)) && decide ((i : Int) < (len : Int))) = true := by rw [e1]; simp
        rw [e3, e1, e2]
        simp only [cond_true]
        have e4 : wi64 ((i : Int) + 1) = ((i + 1 : Nat) : Int) := by rw [wi64_id (by omega) (by omega)]; omega
        obtain ⟨j', rfl⟩ : ∃ j', j = j' + 1 := ⟨j - 1, by omega⟩
        have hk := tmod_bd (l.getD (i : Int).toNat 0) 4 (by decide)
        generalize hkk : Int.tmod (l.getD (i : Int).toNat 0) 4 = k at hk
        have bk : Bd k 3 := by unfold Bd; omega
        rw [e4, wi64_id (n := k) (by omega) (by omega)]
        have q1 := bk.mul hP
        have q2 := bk.mul hR
        have q3 := q1.add hQ
        have q4 := q2.add hS
        have hM4 : 3 * M + M = 4 * M := by omega
        rw [hM4] at q3 q4
        have hpow : 4 * M * 4 ^ j' = M * 4 ^ (j' + 1) := by rw [Int.pow_succ]; grind
        have hb4 : 4 * M ≤ 16777216 := by
          have : (0 : Int) < 4 ^ j' := Int.pow_pos (by decide)
          have h1 := Int.mul_le_mul_of_nonneg_left (show (1 : Int) ≤ 4 ^ j' by omega) (show (0 : Int) ≤ 4 * M by omega)
          omega
        rw [q1.w (by omega), q2.w (by omega), q3.w (by omega), q4.w (by omega), Int.zero_sub, Int.zero_sub, hP.neg.w (by omega), hR.neg.w (by omega)]
        cases sw.getD (i : Int).toNat false
        · simp only [cond_false]
          exact turn_loop len l sw x8 x9 x10 x11 k0 j' n (i + 1) (4 * M) P (k * P + Q) R' (k * R' + S) (by omega) (by omega) (by omega) (by omega) (hP.le (by omega)) q3 (hR.le (by omega)) q4 (by grind)
        · simp only [cond_true]
          exact turn_loop len l sw x8 x9 x10 x11 k0 j' n (i + 1) (4 * M) (k * P + Q) (-P) (k * R' + S) (-R') (by omega) (by omega) (by omega) (by omega) q3 (hP.neg.le (by omega)) q4 (hR.neg.le (by omega)) (by grind)
      · rw [decide_eq_true h1, decide_eq_false h2]
        simp only [cond_true, cond_false]
        exact stop
    · rw [decide_eq_false h1]
      simp only [cond_false]
      exact stop

theorem turn_model {N : Nat} (hN : 1000000001 < N) (len : Nat) (l : List Int) (sw : List Bool) : ∃ p q r s, Bd p 16777216 ∧ Bd q 16777216 ∧ Bd r 16777216 ∧ Bd s 16777216 ∧ p * s - q * r = 1 ∧ parquetlaw08_turn.f N len l sw = some (p, q, r, s) := by
  obtain ⟨p, q, r, s, h1, h2, h3, h4, h5, h6⟩ := turn_loop (N := N) (R := Int × Int × Int × Int) len l sw 0 0 0 0 (fun y24 y25 y26 y27 y28 y29 y30 y31 => some (y28, y29, y30, y31)) 12 N 0 1 1 0 0 1 rfl (by omega) (by decide) (by decide) (by unfold Bd; omega) (by unfold Bd; omega) (by unfold Bd; omega) (by unfold Bd; omega) (by decide)
  exact ⟨p, q, r, s, h1, h2, h3, h4, h5, h6⟩

/- What an answer of Act says -/
theorem cf_true {s : Int} (h : (cf s).2 = true) : (cf s).1 = s ∧ -1073741824 ≤ s ∧ s ≤ 1073741824 := by
  unfold cf at *
  split at h
  · rename_i hs
    rw [if_pos hs]
    simp at h
    exact ⟨rfl, by omega, by omega⟩
  · cases h

/-- A form's values under a turn. -/
def tA (a b c p r : Int) : Int := a * p * p + b * p * r + c * r * r
def tB (a b c p q r s : Int) : Int := 2 * a * p * q + b * p * s + b * q * r + 2 * c * r * s

theorem act_cases (a b c p q r s : Int) : act a b c p q r s = (0, 0, 0, 3) ∨ (act a b c p q r s = (tA a b c p r, tB a b c p q r s, tA a b c q s, 0) ∧ inB a b c ∧ inB (tA a b c p r) (tB a b c p q r s) (tA a b c q s)) := by
  unfold act
  split
  · rename_i h
    obtain ⟨h0, h1, h2, h3⟩ := h
    obtain ⟨c1, c2⟩ := cf_true h1
    obtain ⟨c3, c4⟩ := cf_true h2
    obtain ⟨c5, c6⟩ := cf_true h3
    refine .inr ⟨by rw [c1, c3, c5]; rfl, h0, ?_⟩
    unfold inB tA tB
    exact ⟨⟨c2.1, c2.2⟩, ⟨c6.1, c6.2⟩, ⟨c4.1, c4.2⟩⟩
  · exact .inl rfl

theorem turns_key (a b c p q r s t u v w x y : Int) :
    tA (tA a b c p r) (tB a b c p q r s) (tA a b c q s) t v = tA a b c (p * t + q * v) (r * t + s * v) ∧
    tB (tA a b c p r) (tB a b c p q r s) (tA a b c q s) t u v w = tB a b c (p * t + q * v) (p * u + q * w) (r * t + s * v) (r * u + s * w) ∧
    tA a b c p r * x * x + tB a b c p q r s * x * y + tA a b c q s * y * y = a * (p * x + q * y) * (p * x + q * y) + b * (p * x + q * y) * (r * x + s * y) + c * (r * x + s * y) * (r * x + s * y) := by
  unfold tA tB
  refine ⟨?_, ?_, ?_⟩ <;> grind

end Go.Proofs.Ytckddgepjhclpaa.NatL
namespace Go.Proofs.Ytckddgepjhclpaa.Pure
open Go Go.Proofs.Ytckddgepjhclpaa.Ev
open Go.Proofs.Ytckddgepjhclpaa.NatL
set_option linter.unusedVariables false

theorem BinaryTurns (a1 a2 a3 : Int) (l : List Int) (lb : List Bool) (k : List Int) (kb : List Bool) (x y : Int) (w1 : (Lit.int .i64 a1).wf = true) (w2 : (Lit.int .i64 a2).wf = true) (w3 : (Lit.int .i64 a3).wf = true)
    (hl : l.length = lb.length) (wl : ∀ x ∈ l, (Lit.int .i8 x).wf = true) (hk : k.length = kb.length) (wk : ∀ x ∈ k, (Lit.int .i8 x).wf = true) (wx : (Lit.int .i16 x).wf = true) (wy : (Lit.int .i16 y).wf = true) : ∃ N, parquetlaw08_BinaryTurns.f N a1 a2 a3 l.length l lb k.length k kb x y = some true := by
  refine ⟨8589934700, ?_⟩
  have hN : 1000000001 < 8589934700 := by decide
  have hw := wakes_true
  generalize 8589934700 = N at *
  obtain ⟨p, q, r, s, bp, bq, br, bs, hd, ht⟩ := turn_model hN l.length l lb
  obtain ⟨t, u, v, w, bt, bu, bv, bw, hd2, ht2⟩ := turn_model hN k.length k kb
  unfold parquetlaw08_BinaryTurns.f
  rw [ht, ht2, hw]
  simp only [Option.bind_some]
  have ba := tmod_bd a1 1000 (by decide)
  have bb := tmod_bd a2 1000 (by decide)
  have bc := tmod_bd a3 1000 (by decide)
  have bx := tmod_bd x 100 (by decide)
  have by_ := tmod_bd y 100 (by decide)
  generalize Int.tmod a1 1000 = a at *
  generalize Int.tmod a2 1000 = b at *
  generalize Int.tmod a3 1000 = c at *
  generalize Int.tmod x 100 = x' at *
  generalize Int.tmod y 100 = y' at *
  have ww : ∀ {z : Int}, Bd z 16777216 → W64 z := fun h => h.W (by decide)
  rw [(act_model hN a b c p q r s (ww bp) (ww bq) (ww br) (ww bs)).1]
  simp only [Option.bind_some]
  have hmix : ∀ {a b c d : Int}, Bd a 16777216 → Bd b 16777216 → Bd c 16777216 → Bd d 16777216 → wi64 (wi64 (a * b) + wi64 (c * d)) = a * b + c * d ∧ W64 (a * b + c * d) := fun ha hb hc hd => by
    have h1 := ha.mul hb
    have h2 := hc.mul hd
    rw [h1.w (by decide), h2.w (by decide), (h1.add h2).w (by decide)]
    exact ⟨rfl, (h1.add h2).W (by decide)⟩
  rw [(hmix bp bt bq bv).1, (hmix bp bu bq bw).1, (hmix br bt bs bv).1, (hmix br bu bs bw).1]
  rw [(act_model hN a b c _ _ _ _ (hmix bp bt bq bv).2 (hmix bp bu bq bw).2 (hmix br bt bs bv).2 (hmix br bu bs bw).2).1]
  rcases act_cases a b c p q r s with h1 | ⟨h1, i1, j1⟩
  · rw [h1]
    simp only [(act_model hN 0 0 0 t u v w (ww bt) (ww bu) (ww bv) (ww bw)).1, Option.bind_some]
    rfl
  · rw [h1]
    simp only [(act_model hN _ _ _ t u v w (ww bt) (ww bu) (ww bv) (ww bw)).1, Option.bind_some]
    obtain ⟨k1, k2, _⟩ := turns_key a b c p q r s t u v w 0 0
    obtain ⟨k3, _, _⟩ := turns_key a b c p q r s u u w w 0 0
    rcases act_cases (tA a b c p r) (tB a b c p q r s) (tA a b c q s) t u v w with h2 | ⟨h2, i2, j2⟩
    · rw [h2]; rfl
    · rw [h2]
      rcases act_cases a b c (p * t + q * v) (p * u + q * w) (r * t + s * v) (r * u + s * w) with h3 | ⟨h3, i3, j3⟩
      · rw [h3]; rfl
      · rw [h3, k1, k2, k3]
        have key := (turns_key a b c p q r s t u v w x' y').2.2
        have e0 : ((0 : Int) != 0) = false := rfl
        have bA : Bd (tA a b c p r) 1073741824 := j1.1
        have bB : Bd (tB a b c p q r s) 1073741824 := j1.2.1
        have bC : Bd (tA a b c q s) 1073741824 := j1.2.2
        simp only [e0, cond_false, beq_self_eq_true, Bool.and_self, cond_true, w_add_l, w_add_r, w_mul_l, w_mul_r]
        simp only [key, beq_self_eq_true, cond_true]

end Go.Proofs.Ytckddgepjhclpaa.Pure
