-- Plain laws of the row law08: the turn that is told; BinaryReduces.
import Derived.Test.YtifnooogklfifaaFg
import Derived.KernelRfl
namespace Go.Proofs.Ytifnooogklfifaa.Pure
open Go Go.Proofs.Ytifnooogklfifaa.Ev
open Go.Proofs.Ytifnooogklfifaa.NatL (tA tB turns_key W64 Bd w_add_l w_add_r w_sub_l w_sub_r w_mul_l w_mul_r w_w)
set_option linter.unusedVariables false
set_option linter.unusedSimpArgs false

/-- Reducing, with the whole turn. -/
theorem reduce_turn (N : Nat) : ∀ (n : Nat) (a b c : Int), Good a b c → mu a b c < n → ∃ a' b' c' t u v w : Int, t * w - u * v = 1 ∧ a' = tA a b c t v ∧ b' = tB a b c t u v w ∧ c' = tA a b c u w ∧ Good a' b' c' ∧ inR a' b' ∧ ¬ small_ a' b' c' ∧
    (∀ {R : Type} x1 x2 x3 x4 x5 x6 x7 (P Q R' S : Int) (K : Int → Int → Int → Int → Int → Int → Int → Int → Int → Int → Int → Int → Int → Int → Option R), binary_Reduce.l6 N n x1 x2 x3 x4 x5 x6 x7 a b c (wi64 P) (wi64 Q) (wi64 R') (wi64 S) K =
      K x1 x2 x3 x4 x5 x6 x7 a' b' c' (wi64 (P * t + Q * v)) (wi64 (P * u + Q * w)) (wi64 (R' * t + S * v)) (wi64 (R' * u + S * w))) := by
  intro n
  induction n with
  | zero => intro a b c h hm; have := (mu_pos h).1; omega
  | succ n ih =>
    intro a b c h hm
    by_cases hr : inR a b
    · by_cases hs : small_ a b c
      · have hlt := mu_swap h hr hs
        obtain ⟨a', b', c', t, u, v, w, hd, g1, g2, g3, g4, g5, g6, g7⟩ := ih c (-b) a h.swap (by omega)
        refine ⟨a', b', c', -v, -w, t, u, by grind, ?_, ?_, ?_, g4, g5, g6, fun x1 x2 x3 x4 x5 x6 x7 P Q R' S K => ?_⟩
        · rw [g1]; unfold tA; grind
        · rw [g2]; unfold tB; grind
        · rw [g3]; unfold tA; grind
        · rw [binary_Reduce.l6, step_model N h, if_pos hr, if_pos hs]
          simp only [Option.bind_some, cond_true, w_sub_r]
          simp only [Int.zero_sub]
          rw [g7]
          have e1 : Q * t + -P * v = P * -v + Q * t := by grind
          have e2 : Q * u + -P * w = P * -w + Q * u := by grind
          have e3 : S * t + -R' * v = R' * -v + S * t := by grind
          have e4 : S * u + -R' * w = R' * -w + S * u := by grind
          rw [e1, e2, e3, e4]
      · refine ⟨a, b, c, 1, 0, 0, 1, by decide, by unfold tA; grind, by unfold tB; grind, by unfold tA; grind, h, hr, hs, fun x1 x2 x3 x4 x5 x6 x7 P Q R' S K => ?_⟩
        rw [binary_Reduce.l6, step_model N h, if_pos hr, if_neg hs]
        simp only [Option.bind_some, cond_false, Int.mul_one, Int.mul_zero, Int.add_zero, Int.zero_add]
    · have hlt := mu_shift h hr
      obtain ⟨a', b', c', t, u, v, w, hd, g1, g2, g3, g4, g5, g6, g7⟩ := ih a (sB a b) (sC a b c) h.shift.1 (by omega)
      refine ⟨a', b', c', t + kk a b * v, u + kk a b * w, v, w, by grind, ?_, ?_, ?_, g4, g5, g6, fun x1 x2 x3 x4 x5 x6 x7 P Q R' S K => ?_⟩
      · rw [g1]; unfold tA sB sC; grind
      · rw [g2]; unfold tB sB sC; grind
      · rw [g3]; unfold tA sB sC; grind
      · rw [binary_Reduce.l6, step_model N h, if_neg hr]
        simp only [Option.bind_some, cond_true, w_mul_r, w_add_l, w_add_r]
        rw [g7]
        have e1 : P * t + (kk a b * P + Q) * v = P * (t + kk a b * v) + Q * v := by grind
        have e2 : P * u + (kk a b * P + Q) * w = P * (u + kk a b * w) + Q * w := by grind
        have e3 : R' * t + (kk a b * R' + S) * v = R' * (t + kk a b * v) + S * v := by grind
        have e4 : R' * u + (kk a b * R' + S) * w = R' * (u + kk a b * w) + S * w := by grind
        rw [e1, e2, e3, e4]

/-- May a form be? -/
structure Fine (a b c : Int) : Prop where
  inb : inB a b c
  pos : 0 < a
  d0 : b * b - 4 * a * c < 0
  d1 : -4294967296 ≤ b * b - 4 * a * c

theorem Fine.good {a b c : Int} (h : Fine a b c) : Good a b c := by
  obtain ⟨⟨⟨a0, a1⟩, ⟨b0, b1⟩, c0, c1⟩, a2, d0, d1⟩ := h
  have hsq := sq_nonneg b
  have hc : 0 < c := by
    rcases Int.lt_or_le 0 c with h | h
    · exact h
    · exfalso
      have := Int.mul_nonneg (show (0:Int) ≤ 4 * a by omega) (show (0:Int) ≤ -c by omega)
      have e2 : 4 * a * -c = -(4 * a * c) := by grind
      omega
  exact ⟨by omega, by omega, by omega, by omega, hc, by omega, by omega, by omega⟩

theorem check_fine (N : Nat) (a b c : Int) : (Fine a b c ∧ binary_Check.f N a b c = some 0) ∨ (¬ Fine a b c ∧ ∃ e, e ≠ 0 ∧ binary_Check.f N a b c = some e) := by
  unfold binary_Check.f
  rw [(disc_model N a b c).1, within_model]
  by_cases h : inB a b c
  · have hd := disc_id h
    simp only [h, decide_true, if_true, Option.bind_some, Bool.not_true, cond_false, hd]
    by_cases h1 : a ≤ 0
    · exact .inr ⟨fun f => by have := f.pos; omega, 81, by decide, by simp [h1]⟩
    · by_cases h2 : b * b - 4 * a * c ≥ 0
      · exact .inr ⟨fun f => by have := f.d0; omega, 81, by decide, by simp only [h1, h2, decide_true, decide_false, cond_true, cond_false]⟩
      · by_cases h3 : b * b - 4 * a * c < -4294967296
        · exact .inr ⟨fun f => by have := f.d1; omega, 80, by decide, by simp only [h1, h2, h3, decide_true, decide_false, cond_true, cond_false]⟩
        · exact .inl ⟨⟨h, by omega, by omega, by omega⟩, by simp only [h1, h2, h3, decide_true, decide_false, cond_true, cond_false]⟩
  · exact .inr ⟨fun f => h f.inb, 3, by decide, by simp [h]⟩

/-- What Reduce tells. -/
theorem reduce_told {N : Nat} (hN : 8589934600 < N) {a b c : Int} (h : Fine a b c) : ∃ a' b' c' t u v w : Int, t * w - u * v = 1 ∧ a' = tA a b c t v ∧ b' = tB a b c t u v w ∧ c' = tA a b c u w ∧ Fine a' b' c' ∧ inR a' b' ∧ ¬ small_ a' b' c' ∧
    Bd t 65536 ∧ Bd u 65536 ∧ Bd v 65536 ∧ Bd w 65536 ∧ binary_Reduce.f N a b c = some (a', b', c', t, u, v, w, 0) := by
  have hg := h.good
  obtain ⟨a', b', c', t, u, v, w, hd, g1, g2, g3, g4, g5, g6, g7⟩ := reduce_turn N N a b c hg (by have := (mu_pos hg).2; omega)
  have he : Eqv a b c a' b' c' := ⟨t, u, v, w, hd, g1, g2, g3⟩
  have hdisc := he.disc
  have hr := g5
  unfold inR at hr
  have hs := g6
  unfold small_ at hs
  have hca : a' ≤ c' := by omega
  -- the turn back tells a and c
  have ba : tA a' b' c' w (-v) = a := by
    rw [g1, g2, g3, (turns_key a b c t u v w w (-u) (-v) t 0 0).1]
    have e1 : t * w + u * -v = 1 := by grind
    have e2 : v * w + w * -v = 0 := by grind
    rw [e1, e2]; unfold tA; grind
  have bc : tA a' b' c' (-u) t = c := by
    rw [g1, g2, g3, (turns_key a b c t u v w (-u) (-u) t t 0 0).1]
    have e1 : t * -u + u * t = 0 := by grind
    have e2 : v * -u + w * t = 1 := by grind
    rw [e1, e2]; unfold tA; grind
  obtain ⟨⟨⟨i0, i1⟩, ⟨i2, i3⟩, i4, i5⟩, _⟩ := id h
  obtain ⟨l1, l2⟩ := tA_low (x := w) (y := -v) g4.a0 (by omega) hr.2 hca
  obtain ⟨l3, l4⟩ := tA_low (x := -u) (y := t) g4.a0 (by omega) hr.2 hca
  rw [ba] at l1 l2
  rw [bc] at l3 l4
  have e5 : -v * -v = v * v := by grind
  have e6 : -u * -u = u * u := by grind
  have bw := sq_bd (x := w) (by omega)
  have bv := sq_bd (x := v) (by omega)
  have bu := sq_bd (x := u) (by omega)
  have bt := sq_bd (x := t) (by omega)
  -- bounds of the reduced form: c' is told of a and c by small turns
  have d4 := g4.d0
  have d5 := g4.d1
  have hb' : b' * b' ≤ a' * c' := by
    have p1 := Int.mul_nonneg (show 0 ≤ a' - b' by omega) (show 0 ≤ a' + b' by omega)
    have e : (a' - b') * (a' + b') = a' * a' - b' * b' := by grind
    have p2 := Int.mul_le_mul_of_nonneg_left hca (Int.le_of_lt g4.a0)
    omega
  have hac : 3 * (a' * c') ≤ 4294967296 := by
    have e : 4 * a' * c' = 4 * (a' * c') := by grind
    omega
  have hsq := sq_nonneg b'
  have k1 := Int.mul_le_mul_of_nonneg_right (show (1 : Int) ≤ a' by have := g4.a0; omega) (show 0 ≤ c' by have := g4.c0; omega)
  have fin' : Fine a' b' c' := by
    refine ⟨?_, g4.a0, d4, d5⟩
    have hc1 : c' ≤ 1073741824 := by
      -- 4 a' c' <= 2^32 + b'^2 and b' <= a'; so c' <= 2^30 + a' / 4; the bound needs a' = 1
      have q1 := sq_nonneg (a' - b')
      rcases Int.lt_or_le 1 a' with h | h
      · have := Int.mul_le_mul_of_nonneg_right (show (2 : Int) ≤ a' by omega) (show 0 ≤ c' by have := g4.c0; omega)
        omega
      · obtain rfl : a' = 1 := by have := g4.a0; omega
        have : b' = 0 ∨ b' = 1 := by omega
        rcases this with rfl | rfl <;> omega
    have hc0 := g4.c0
    have ha0 := g4.a0
    unfold inB
    refine ⟨⟨by omega, by omega⟩, ⟨by omega, by omega⟩, by omega, hc1⟩
  refine ⟨a', b', c', t, u, v, w, hd, g1, g2, g3, fin', g5, g6, bt, bu, bv, bw, ?_⟩
  have hck : binary_Check.f N a b c = some 0 := by
    rcases check_fine N a b c with ⟨_, h2⟩ | ⟨h2, _⟩
    · exact h2
    · exact absurd h h2
  unfold binary_Reduce.f
  rw [hck]
  have e0 : ((0 : Int) != 0) = false := rfl
  simp only [Option.bind_some, e0, cond_false]
  have h1 : wi64 1 = 1 := by decide
  have h0 : wi64 0 = 0 := by decide
  have := fun x1 x2 x3 x4 x5 x6 x7 => @g7 (Int × Int × Int × Int × Int × Int × Int × Int) x1 x2 x3 x4 x5 x6 x7 1 0 0 1
  simp only [h1, h0, Int.one_mul, Int.zero_mul, Int.add_zero, Int.zero_add] at this
  rw [this]
  have wb : ∀ {x : Int}, Bd x 65536 → wi64 x = x := fun h => NatL.Bd.w h (by decide)
  rw [wb bt, wb bu, wb bv, wb bw]

theorem reduce_not {N : Nat} {a b c : Int} (h : ¬ Fine a b c) : ∃ e, e ≠ 0 ∧ binary_Check.f N a b c = some e ∧ binary_Reduce.f N a b c = some (0, 0, 0, 0, 0, 0, 0, e) := by
  rcases check_fine N a b c with ⟨h2, _⟩ | ⟨_, e, he, h2⟩
  · exact absurd h2 h
  · refine ⟨e, he, h2, ?_⟩
    unfold binary_Reduce.f
    rw [h2]
    have : (e != 0) = true := by simpa using he
    simp [this]

/-- What is reduced is told as it is. -/
theorem reduce_again {N : Nat} (hN : 8589934600 < N) {a b c : Int} (h : Fine a b c) (hr : inR a b) (hs : ¬ small_ a b c) : binary_Reduce.f N a b c = some (a, b, c, 1, 0, 0, 1, 0) := by
  have hck : binary_Check.f N a b c = some 0 := by
    rcases check_fine N a b c with ⟨_, h2⟩ | ⟨h2, _⟩
    · exact h2
    · exact absurd h h2
  unfold binary_Reduce.f
  rw [hck]
  have e0 : ((0 : Int) != 0) = false := rfl
  simp only [Option.bind_some, e0, cond_false]
  obtain ⟨n, rfl⟩ : ∃ m, N = m + 1 := ⟨N - 1, by omega⟩
  rw [binary_Reduce.l6, step_model (n + 1) h.good, if_pos hr, if_neg hs]
  rfl

theorem reduced_model {N : Nat} {a b c : Int} (h : Fine a b c) (hr : inR a b) (hs : ¬ small_ a b c) : binary_Reduced.f N a b c = some true := by
  have hck : binary_Check.f N a b c = some 0 := by
    rcases check_fine N a b c with ⟨_, h2⟩ | ⟨h2, _⟩
    · exact h2
    · exact absurd h h2
  unfold binary_Reduced.f
  rw [hck]
  simp only [Option.bind_some, beq_self_eq_true, cond_true]
  rw [step_model N h.good, if_pos hr, if_neg hs]
  rfl

theorem Fine.under {a b c p q r s : Int} (h : Fine a b c) (hd : p * s - q * r = 1) (hb : inB (tA a b c p r) (tB a b c p q r s) (tA a b c q s)) : Fine (tA a b c p r) (tB a b c p q r s) (tA a b c q s) := by
  have e := Eqv.disc (a := a) (b := b) (c := c) ⟨p, q, r, s, hd, rfl, rfl, rfl⟩
  refine ⟨hb, tA_pos h.pos h.d0 ?_, by rw [e]; exact h.d0, by rw [e]; exact h.d1⟩
  by_cases h1 : p = 0
  · by_cases h2 : r = 0
    · subst h1; subst h2; simp at hd
    · exact .inr h2
  · exact .inl h1


end Go.Proofs.Ytifnooogklfifaa.Pure
