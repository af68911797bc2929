-- Plain laws of the row law01: NatShifts.
import Derived.Test.YtnjlpjdncejfcaaPj
namespace Go.Proofs.Ytnjlpjdncejfcaa.Pure
open Go Go.Proofs.Ytnjlpjdncejfcaa.Ev
set_option linter.unusedVariables false
set_option linter.unusedSimpArgs false

/- Halves -/
theorem half_loop (N : Nat) {R : Type} {a : List Int} (ha : Dig (65536 : Int) a) (hal : a.length ≤ 1000000) (K0 : List Int → Option R) : ∀ (n j : Nat) (r : Int) (o : List Int), Dig (65536 : Int) o → o.length = a.length → j ≤ a.length → j < n → 0 ≤ r → r ≤ 1 →
    nv (65536 : Int) (a.drop j) = 2 * nv (65536 : Int) (o.drop j) + r → (∀ k, k < j → o.getD k 0 = 0) →
    ∃ q, Dig (65536 : Int) q ∧ q.length = a.length ∧ nv (65536 : Int) q = nv (65536 : Int) a / 2 ∧ parquetref01_half.l4 N n a r ((j : Int) - 1) o K0 = K0 q := by
  intro n
  induction n with
  | zero => intro j r o _ _ _ h; omega
  | succ n ih =>
    intro j r o ho hol hj hn r0 r1 hv hz
    rw [parquetref01_half.l4]
    cases j with
    | zero =>
      simp only [List.drop_zero] at hv
      exact ⟨o, ho, hol, by omega, rfl⟩
    | succ j =>
      have e0 : ((j + 1 : Nat) : Int) - 1 = (j : Int) := by omega
      have e1 : wi64 ((j : Int) - 1) = (j : Int) - 1 := wi64_id (by omega) (by omega)
      have c0 : decide ((j : Int) ≥ 0) = true := decide_eq_true (by omega)
      have c1 : (decide (0 ≤ (j : Int)) && decide ((j : Int) < (a.length : Int))) = true := by simp; omega
      have c2 : (decide (0 ≤ (j : Int)) && decide ((j : Int) < (o.length : Int))) = true := by simp; omega
      have e2 : (j : Int).toNat = j := by omega
      have hx := ha.get (by decide) j
      rw [e0, c1, c2, c0, e1, e2]
      simp only [cond_true]
      rw [wu32_id (n := r * 65536) (by omega) (by omega), wu32_id (n := r * 65536 + a.getD j 0) (by omega) (by omega), tdiv_nn (by omega), tmod_nn (by omega), wu32_id (n := (r * 65536 + a.getD j 0) / 2) (by omega) (by omega)]
      generalize hs : r * 65536 + a.getD j 0 = s
      have hdrop : (o.set j (s / 2)).drop (j + 1) = o.drop (j + 1) := by simp [List.drop_set]
      have hget : (o.set j (s / 2)).getD j 0 = s / 2 := by
        rw [List.getD_eq_getElem?_getD, List.getElem?_set_self (by omega)]; rfl
      refine ih j (s % 2) (o.set j (s / 2)) (ho.set _ (by omega) (by omega)) (by simpa using hol) (by omega) (by omega) (by omega) (by omega) ?_ (fun k hk => ?_)
      · rw [nv_drop' (65536 : Int) a j, nv_drop' (65536 : Int) (o.set j (s / 2)) j, hdrop, hget, hv]
        have : s % 2 = s - 2 * (s / 2) := by omega
        rw [this]
        generalize s / 2 = z at *
        subst hs
        grind
      · have := hz k (by omega)
        simp only [List.getD_eq_getElem?_getD, List.getElem?_set] at this ⊢
        rw [if_neg (by omega)]
        exact this

theorem half_model {N : Nat} (hN : 1000000001 < N) {a : List Int} (ha : Dig (65536 : Int) a) (hal : a.length ≤ 1000000) : ∃ m q, Dig (65536 : Int) q ∧ m ≤ q.length ∧ q.length = a.length ∧ Can (65536 : Int) (q.take m) ∧ nv (65536 : Int) (q.take m) = nv (65536 : Int) a / 2 ∧ parquetref01_half.f N a = some (0, m, q) := by
  unfold parquetref01_half.f
  have et : ((a.length : Nat) : Int).toNat = a.length := by omega
  have e1 : wi64 ((a.length : Int) - 1) = (a.length : Int) - 1 := wi64_id (by omega) (by omega)
  rw [make_oknat (by omega), et, e1]
  simp only [cond_true]
  obtain ⟨q, q1, q2, q3, q4⟩ := half_loop N ha hal (fun y7 => (parquetref01_cut.f N 0 y7.length y7).bind fun r8 => some (r8.1, r8.2.1, r8.2.2)) N a.length 0 (List.replicate a.length 0) (Dig.replicate (by decide) _) (by simp) (Nat.le_refl _) (by omega) (by omega) (by omega) (by rw [List.drop_length, List.drop_eq_nil_iff.mpr (by simp)]; rfl) (fun k _ => rep_get _ k)
  rw [q4, rcut_model hN q _ (Nat.le_refl _) (by omega)]
  exact ⟨cutN q q.length, q, q1, cutN_le _ _, q2, cutL_can q1, by rw [← q3]; exact cutL_nv (65536 : Int) q, rfl⟩

theorem halves_loop {N : Nat} (hN : 1000000001 < N) {R : Type} (n0 : Int) (m : Nat) (hm : Int.tmod n0 16 = (m : Int)) (hm2 : m ≤ 16) (K0 : Nat → Nat → List Int → Option R) : ∀ (n i k : Nat) (q : List Int), Dig (65536 : Int) q → k ≤ q.length → q.length ≤ 1000000 → i ≤ m → m - i < n →
    ∃ k' q', Dig (65536 : Int) q' ∧ k' ≤ q'.length ∧ q'.length ≤ 1000000 ∧ nv (65536 : Int) (q'.take k') = nv (65536 : Int) (q.take k) / 2 ^ (m - i) ∧ parquetref01_Shr.l5 N n n0 0 k (i : Int) q K0 = K0 0 k' q' := by
  intro n
  induction n with
  | zero => intro i k q _ _ _ _ h; omega
  | succ n ih =>
    intro i k q hq hk hl hi hn
    rw [parquetref01_Shr.l5, hm]
    by_cases him : i < m
    · have e0 : decide ((i : Int) < (m : Int)) = true := decide_eq_true (by omega)
      have e3 : wi64 ((i : Int) + 1) = ((i + 1 : Nat) : Int) := by rw [wi64_id (by omega) (by omega)]; omega
      have hlen : ((q.drop 0).take k).length = k := by simp; omega
      obtain ⟨k1, q1, g1, g2, g3, g4, g5, g6⟩ := half_model hN (a := (q.drop 0).take k) ((hq.drop 0).take k) (by omega)
      rw [e0, g6, e3]
      simp only [cond_true, Option.bind_some]
      obtain ⟨k', q', f1, f2, f3, f4, f5⟩ := ih (i + 1) k1 q1 g1 g2 (by omega) (by omega) (by omega)
      refine ⟨k', q', f1, f2, f3, ?_, f5⟩
      rw [f4, g5, List.drop_zero, Int.ediv_ediv_of_nonneg (by decide)]
      congr 1
      have : m - i = m - (i + 1) + 1 := by omega
      rw [this, Int.pow_succ]; omega
    · have e0 : decide ((i : Int) < (m : Int)) = false := decide_eq_false (by omega)
      have hz : m - i = 0 := by omega
      rw [e0, hz]
      exact ⟨k, q, hq, hk, hl, by simp, rfl⟩

theorem pow16 (n : Nat) : (65536 : Int) ^ (n / 16) * 2 ^ (n % 16) = 2 ^ n := by
  rw [Hpow, ← Int.pow_add]; congr 1; omega

theorem rshr_enc {N : Nat} (hN : 1000000001 < N) {v : Int} (h0 : 0 ≤ v) (hl : (enc (65536 : Int) v).length ≤ 1000) {n : Int} (n0 : 0 ≤ n) (n1 : n < 9223372036854775808) : parquetref01_Shr.f N (enc (65536 : Int) v) n = some (enc (65536 : Int) (v / 2 ^ n.toNat)) := by
  obtain ⟨h1, h2⟩ := enc_spec H2 h0
  unfold parquetref01_Shr.f
  have ed : wi64 (Int.tdiv n 16) = ((n.toNat / 16 : Nat) : Int) := by rw [tdiv_nn n0, wi64_id (by omega) (by omega)]; omega
  have em : Int.tmod n 16 = ((n.toNat % 16 : Nat) : Int) := by rw [tmod_nn n0]; omega
  have et : (((n.toNat / 16 : Nat) : Int)).toNat = n.toNat / 16 := by omega
  have hbv := nv_bound (show 0 < (65536 : Int) by decide) h1.dig
  rw [h2] at hbv
  rw [ed, et]
  by_cases hb : (enc (65536 : Int) v).length ≤ n.toNat / 16
  · have c1 : decide (((n.toNat / 16 : Nat) : Int) ≥ ((enc (65536 : Int) v).length : Int)) = true := decide_eq_true (by omega)
    rw [c1]
    have hz : v / 2 ^ n.toNat = 0 := by
      refine Int.ediv_eq_zero_of_lt h0 ?_
      have m1 := hpow_mono hb
      have m2 : (65536 : Int) ^ (n.toNat / 16) ≤ 2 ^ n.toNat := by rw [Hpow]; exact p2_mono (by omega)
      omega
    rw [hz, enc_zero H2]; rfl
  · have c1 : decide (((n.toNat / 16 : Nat) : Int) ≥ ((enc (65536 : Int) v).length : Int)) = false := decide_eq_false (by omega)
    have c2 : (((decide (0 ≤ ((n.toNat / 16 : Nat) : Int)) && decide (((n.toNat / 16 : Nat) : Int) ≤ ((enc (65536 : Int) v).length : Int))) && decide (((enc (65536 : Int) v).length : Int) ≤ ((enc (65536 : Int) v).length : Int))) && decide (((enc (65536 : Int) v).length : Int) ≤ ((enc (65536 : Int) v).length : Int))) = true := by simp; omega
    have et2 : ((enc (65536 : Int) v).length : Int).toNat = (enc (65536 : Int) v).length := by omega
    rw [c1, c2, et2]
    simp only [cond_true, cond_false]
    have htk : ((enc (65536 : Int) v).drop (n.toNat / 16)).take ((enc (65536 : Int) v).length - n.toNat / 16) = (enc (65536 : Int) v).drop (n.toNat / 16) := List.take_of_length_le (by rw [List.length_drop]; omega)
    rw [htk, List.nil_append]
    have hdl : ((enc (65536 : Int) v).drop (n.toNat / 16)).length ≤ 1000 := by rw [List.length_drop]; omega
    rw [roomy4 (by omega)]
    simp only [cond_true]
    obtain ⟨k', q', f1, f2, f3, f4, f5⟩ := halves_loop hN n (n.toNat % 16) em (by omega) (fun y12 y13 y14 => (parquetref01_cut.f N y12 y13 y14).bind fun r15 => some ((r15.2.2.drop r15.1).take r15.2.1)) N 0 ((enc (65536 : Int) v).drop (n.toNat / 16)).length ((enc (65536 : Int) v).drop (n.toNat / 16)) (h1.dig.drop _) (Nat.le_refl _) (by omega) (by omega) (by omega)
    have ez : ((0 : Nat) : Int) = 0 := rfl
    rw [ez] at f5
    rw [f5, rcut_model hN q' k' f2 (by omega)]
    simp only [Option.bind_some, List.drop_zero]
    have hsp := nv_split (65536 : Int) (enc (65536 : Int) v) (n.toNat / 16) (by omega)
    have htb := nv_bound (show 0 < (65536 : Int) by decide) (h1.dig.take (n.toNat / 16))
    have htl : ((enc (65536 : Int) v).take (n.toNat / 16)).length = n.toNat / 16 := by rw [List.length_take]; omega
    rw [htl] at htb
    have hBp : (0 : Int) < (65536 : Int) ^ (n.toNat / 16) := Int.pow_pos (by decide)
    have hq : nv (65536 : Int) ((enc (65536 : Int) v).drop (n.toNat / 16)) = v / (65536 : Int) ^ (n.toNat / 16) := by
      rw [h2] at hsp
      refine ((congrArg (· / (65536 : Int) ^ (n.toNat / 16)) hsp).trans ?_).symm
      rw [Int.add_mul_ediv_left _ _ (by omega), Int.ediv_eq_zero_of_lt htb.1 htb.2]; simp
    rw [List.take_length, hq, Nat.sub_zero, Int.ediv_ediv_of_nonneg (Int.le_of_lt hBp), pow16] at f4
    have hcn := cutN_le q' k'
    have hcan : Can (65536 : Int) (q'.take (cutN q' k')) := by
      refine ⟨f1.take _, fun hne => ?_⟩
      have hp : 0 < cutN q' k' := by
        rcases Nat.eq_zero_or_pos (cutN q' k') with h | h
        · rw [h] at hne; exact absurd rfl hne
        · exact h
      rw [List.length_take, Nat.min_eq_left (by omega), getD_take (by omega)]
      exact cutN_top q' k' hp
    rw [enc_eq H2 hcan (by rw [cutN_nv (65536 : Int) q' k' f2, f4])]

theorem rshl_enc {N : Nat} (hN : 1000000001 < N) {v : Int} (h0 : 0 < v) (hl : (enc (65536 : Int) v).length ≤ 1000) {n : Int} (n0 : 0 ≤ n) (n1 : n ≤ 1000000) : parquetref01_Shl.f N (enc (65536 : Int) v) n = some (enc (65536 : Int) (v * 2 ^ n.toNat)) ∧ (enc (65536 : Int) (v * 2 ^ n.toNat)).length ≤ 100000 := by
  obtain ⟨h1, h2⟩ := enc_spec H2 (show 0 ≤ v by omega)
  have hne : enc (65536 : Int) v ≠ [] := fun e => by have := (enc_nil H2 (show 0 ≤ v by omega)).mp e; omega
  have hpos : 0 < (enc (65536 : Int) v).length := List.length_pos_iff.mpr hne
  unfold parquetref01_Shl.f
  have c : (((enc (65536 : Int) v).length : Int) == 0) = false := by simp; omega
  have ed : wi64 (Int.tdiv n 16) = ((n.toNat / 16 : Nat) : Int) := by rw [tdiv_nn n0, wi64_id (by omega) (by omega)]; omega
  have em : Int.tmod n 16 = ((n.toNat % 16 : Nat) : Int) := by rw [tmod_nn n0]; omega
  have et : (((n.toNat / 16 : Nat) : Int)).toNat = n.toNat / 16 := by omega
  have cm : decide (0 ≤ ((n.toNat % 16 : Nat) : Int)) = true := decide_eq_true (by omega)
  have emn : min ((n.toNat % 16 : Nat) : Int).toNat 64 = n.toNat % 16 := by omega
  have hp15 := p2_mono (show n.toNat % 16 ≤ 15 by omega)
  have e15 : (2 : Int) ^ 15 = 32768 := by decide
  have hpp := p2_pos (n.toNat % 16)
  rw [c, ed, em, make_oknat (by omega), et, cm, emn, Int.one_mul, wu64_id (n := 2 ^ (n.toNat % 16)) (by omega) (by omega), rof_model hN (by omega) (by omega)]
  simp only [cond_true, cond_false, Option.bind_some]
  have hpow1 : (65536 : Int) ^ 1 = 65536 := by decide
  have hl1 : (enc (65536 : Int) (2 ^ (n.toNat % 16))).length ≤ 1 := encH_len (by omega) (by omega)
  have hm0 := Int.mul_pos h0 hpp
  have hml := encH_len_mul (show 0 ≤ v by omega) (Int.le_of_lt hpp)
  rw [rmul_enc hN (by omega) (by omega) (by omega) (by omega)]
  simp only [Option.bind_some]
  have hroom := roomy4 (n := (List.replicate (n.toNat / 16) (0 : Int)).length + (enc (65536 : Int) (v * 2 ^ (n.toNat % 16))).length) (by simp; omega)
  rw [hroom]
  simp only [cond_true]
  obtain ⟨g1, g2⟩ := enc_spec H2 (show 0 ≤ v * 2 ^ (n.toNat % 16) by omega)
  have hne2 : enc (65536 : Int) (v * 2 ^ (n.toNat % 16)) ≠ [] := fun e => by have := (enc_nil H2 (show 0 ≤ v * 2 ^ (n.toNat % 16) by omega)).mp e; omega
  have hcan : Can (65536 : Int) (List.replicate (n.toNat / 16) (0 : Int) ++ enc (65536 : Int) (v * 2 ^ (n.toNat % 16))) := by
    refine ⟨(Dig.replicate (by decide) _).append g1.dig, fun _ => ?_⟩
    have hp2 : 0 < (enc (65536 : Int) (v * 2 ^ (n.toNat % 16))).length := List.length_pos_iff.mpr hne2
    have ht := g1.top hne2
    rw [List.getD_eq_getElem?_getD, List.getElem?_append_right (by simp; omega)]
    rw [List.getD_eq_getElem?_getD] at ht
    have : (List.replicate (n.toNat / 16) (0 : Int) ++ enc (65536 : Int) (v * 2 ^ (n.toNat % 16))).length - 1 - (List.replicate (n.toNat / 16) (0 : Int)).length = (enc (65536 : Int) (v * 2 ^ (n.toNat % 16))).length - 1 := by simp; omega
    rw [this]; exact ht
  have hval : nv (65536 : Int) (List.replicate (n.toNat / 16) (0 : Int) ++ enc (65536 : Int) (v * 2 ^ (n.toNat % 16))) = v * 2 ^ n.toNat := by
    rw [nv_append, nv_replicate, g2, List.length_replicate, ← pow16 n.toNat]; grind
  have := enc_eq H2 hcan hval
  exact ⟨by rw [this], by rw [← this]; simp; omega⟩

theorem rpow_loop {N : Nat} (hN : 1000000001 < N) {R : Type} {v : Int} (h : Rg v) (h2 : 2 ≤ v) (m : Nat) (hm : m < 9223372036854775808) (K0 : List Int → Option R) (Kr : List Int → Bool → Option R) : ∀ (n i : Nat), i ≤ m → 4098 - i < n → v ^ i < K → parquetref01_Pow.l7 N n (enc (65536 : Int) v) (m : Int) (enc (65536 : Int) (v ^ i)) (i : Int) K0 Kr = if v ^ m < K then K0 (enc (65536 : Int) (v ^ m)) else Kr [] false := by
  intro n
  induction n with
  | zero => intro i _ h; omega
  | succ n ih =>
    intro i hi hn hk
    rw [parquetref01_Pow.l7]
    have hpi : 0 ≤ v ^ i := Int.le_of_lt (Int.pow_pos (by omega))
    have hi2 : i ≤ 4096 := by
      rcases Nat.lt_or_ge 4096 i with hq | hq
      · exact absurd hk (pow_big h2 (by omega))
      · exact hq
    have l1 : (enc (65536 : Int) v).length ≤ 256 := encH_len h.lo (by rw [← K_H]; exact h.hi)
    have l2 : (enc (65536 : Int) (v ^ i)).length ≤ 256 := encH_len hpi (by rw [← K_H]; exact hk)
    by_cases him : i < m
    · have e0 : decide ((i : Int) < (m : Int)) = true := decide_eq_true (by omega)
      have e3 : wi64 ((i : Int) + 1) = ((i + 1 : Nat) : Int) := by rw [wi64_id (by omega) (by omega)]; omega
      have l3 := encH_len_mul hpi h.lo
      rw [e0, e3, rmul_enc hN hpi h.lo (by omega) (by omega)]
      simp only [cond_true, Option.bind_some]
      rw [rlong_enc hN (Int.mul_nonneg hpi h.lo) (by omega)]
      simp only [Option.bind_some]
      rw [← Int.pow_succ]
      by_cases hk2 : v ^ (i + 1) < K
      · simp only [hk2, decide_true, Bool.not_true, cond_false]
        exact ih (i + 1) (by omega) (by omega) hk2
      · simp only [hk2, decide_false, Bool.not_false, cond_true]
        have hge : v ^ (i + 1) ≤ v ^ m := by
          have e : v ^ m = v ^ (i + 1) * v ^ (m - (i + 1)) := by rw [← Int.pow_add]; congr 1; omega
          have hp : (0 : Int) < v ^ (m - (i + 1)) := Int.pow_pos (by omega)
          have hp1 : (0 : Int) < v ^ (i + 1) := Int.pow_pos (by omega)
          have := Int.mul_le_mul_of_nonneg_left (show 1 ≤ v ^ (m - (i + 1)) by omega) (Int.le_of_lt hp1)
          omega
        rw [if_neg (by omega)]
    · have e0 : decide ((i : Int) < (m : Int)) = false := decide_eq_false (by omega)
      have : i = m := by omega
      subst this
      rw [e0, if_pos hk]; rfl

theorem rpow_enc {N : Nat} (hN : 1000000001 < N) {v : Int} (h : Rg v) {n : Int} (n0 : 0 ≤ n) (n1 : n < 9223372036854775808) : parquetref01_Pow.f N (enc (65536 : Int) v) n = some (if v ^ n.toNat < K then (enc (65536 : Int) (v ^ n.toNat), true) else ([], false)) := by
  have hK1 : 1 < K := by have := K_big; omega
  have l1 : (enc (65536 : Int) v).length ≤ 256 := encH_len h.lo (by rw [← K_H]; exact h.hi)
  unfold parquetref01_Pow.f
  rw [rof_model hN (by decide) (by decide)]
  simp only [Option.bind_some]
  by_cases hn : n = 0
  · subst hn
    have : v ^ (0 : Int).toNat = 1 := Int.pow_zero v
    rw [this, if_pos hK1]; rfl
  · have c1 : (n == 0) = false := by simpa using hn
    rw [c1, rcmp_enc hN h.lo (by decide) (by omega)]
    simp only [cond_false, Option.bind_some]
    by_cases hv1 : v = 1
    · subst hv1
      rw [cmp_self, one_pow, if_pos hK1]; rfl
    · have c2 : (cmp v 1 == 0) = false := by
        unfold cmp; rw [if_neg hv1]; split <;> rfl
      rw [c2]
      simp only [cond_false]
      by_cases hv0 : v = 0
      · subst hv0
        rw [enc_zero H2, zero_pow (by omega), if_pos (by omega), enc_zero H2]; rfl
      · have hne : enc (65536 : Int) v ≠ [] := fun e => hv0 ((enc_nil H2 h.lo).mp e)
        have hpos : 0 < (enc (65536 : Int) v).length := List.length_pos_iff.mpr hne
        have c3 : (((enc (65536 : Int) v).length : Int) == 0) = false := by simp; omega
        have hv2 : 2 ≤ v := by have := h.lo; omega
        rw [c3]
        simp only [cond_false]
        have en : ((n.toNat : Nat) : Int) = n := by omega
        have := rpow_loop hN h hv2 n.toNat (by omega) (fun y17 => some (y17, true)) (fun y18 y19 => some (y18, y19)) N 0 (by omega) (by omega) (by rw [Int.pow_zero]; exact hK1)
        have ez : ((0 : Nat) : Int) = 0 := rfl
        rw [Int.pow_zero, ez, en] at this
        rw [this]
        split <;> rfl

theorem beq_toList (s : ByteArray) : (s.toList == s.toList) = true := beq_self_eq_true _

/-- The answer is the document's: a number. -/
theorem same_num {N : Nat} (hN : 1000000001 < N) {v : Int} (h : Rg v) : parquetlaw01_same.f N (enc (4294967296 : Int) v) 0 (enc (65536 : Int) v) 0 = some true := by
  unfold parquetlaw01_same.f
  rw [text_model hN h.lo h.hi, rtext_enc hN h.lo h.hi]
  simp

theorem text_nil (N : Nat) : nat_Nat_Text.f N [] = some str1 := rfl
theorem rtext_nil (N : Nat) : parquetref01_Text.f N [] = some str1 := rfl

/-- The answer is the document's: an error. -/
theorem same_err (N : Nat) (e : Int) (he : e ≠ 0) (l : List Int) : parquetlaw01_same.f N [] e l e = some true := by
  unfold parquetlaw01_same.f
  have : (e != 0) = true := by simpa using he
  rw [this, text_nil]
  simp

theorem same_nil (N : Nat) : parquetlaw01_same.f N [] 0 [] 0 = some true := by
  unfold parquetlaw01_same.f
  rw [text_nil, rtext_nil]
  simp

theorem long_enc {N : Nat} (hN : 1000000001 < N) {v : Int} (hv : 0 ≤ v) (hl : (enc (65536 : Int) v).length ≤ 100000000) : parquetlaw01_long.f N (enc (65536 : Int) v) = some (oe v) := by
  unfold parquetlaw01_long.f
  rw [rlong_enc hN hv hl]
  unfold oe
  by_cases h : v < K <;> simp [h]

theorem wf_i64 {n : Int} (h : (Lit.int .i64 n).wf = true) : -9223372036854775808 ≤ n ∧ n < 9223372036854775808 := by
  simp [Lit.wf, IntKind.min, IntKind.max, IntKind.bits, IntKind.signed] at h
  omega

theorem NatShifts (s : ByteArray) (n : Int) (w1 : s.size ≤ 140737488351232) (w2 : (Lit.int .i64 n).wf = true) : ∃ N, parquetlaw01_NatShifts.f N s n = some true := by
  refine ⟨8589934700, ?_⟩
  have hN : 1000000001 < 8589934700 := by decide
  have hw := works_true
  generalize 8589934700 = N at *
  obtain ⟨b, hb1, hb2⟩ := beyond1 N s
  obtain ⟨n0, n1⟩ := wf_i64 w2
  unfold parquetlaw01_NatShifts.f
  rw [hw, hb1]
  cases b
  · have s1 := hb2 rfl
    obtain ⟨v, rv, h⟩ := read_model hN s (by omega)
    have hl1 := enc_len128 rv.lo rv.hi
    have hl2 : (enc (65536 : Int) v).length ≤ 256 := encH_len rv.lo (by rw [← K_H]; exact rv.hi)
    simp only [Option.bind_some, Bool.not_true, cond_false]
    rw [h]
    simp only [Option.bind_some, Bool.not_true, cond_false]
    by_cases hneg : n < 0
    · have e1 : nat_Shl.f N (enc (4294967296 : Int) v) n = some ([], 2) := by unfold nat_Shl.f; simp [hneg]
      have e2 : nat_Shr.f N (enc (4294967296 : Int) v) n = some ([], 2) := by unfold nat_Shr.f; simp [hneg]
      have e3 : nat_Pow.f N (enc (4294967296 : Int) v) n = some ([], 2) := by unfold nat_Pow.f; simp [hneg]
      rw [e1, e2, e3]
      simp [hneg, text_nil]
    · have p0 : 0 ≤ n := by omega
      rw [shl_model hN rv p0 n1, shr_model hN rv p0 n1, pow_model hN rv p0 n1]
      simp only [Option.bind_some, hneg, decide_false, cond_false]
      -- the second and the third part
      have q0 : 0 ≤ v / 2 ^ n.toNat := Int.ediv_nonneg rv.lo (Int.le_of_lt (p2_pos _))
      have q1 : v / 2 ^ n.toNat < K := by have := Int.ediv_le_self (2 ^ n.toNat) rv.lo; have := rv.hi; omega
      have hshr := rshr_enc hN rv.lo (by omega) p0 n1
      have hpw := rpow_enc hN rv p0 n1
      have pw0 : 0 ≤ v ^ n.toNat := by
        rcases Int.lt_or_le 0 v with h | h
        · exact Int.le_of_lt (Int.pow_pos h)
        · have : v = 0 := by have := rv.lo; omega
          subst this
          by_cases hz : n.toNat = 0
          · rw [hz, Int.pow_zero]; decide
          · rw [zero_pow hz]; decide
      have fin : ((parquetref01_Pow.f N (enc (65536 : Int) v) n).bind fun r17 =>
          bif !r17.2 then
            (parquetlaw01_same.f N (if v ^ n.toNat < K then (enc (4294967296 : Int) (v ^ n.toNat), (0 : Int)) else ([], 3)).1 (if v ^ n.toNat < K then (enc (4294967296 : Int) (v ^ n.toNat), (0 : Int)) else ([], 3)).2 r17.1 3).bind fun r18 => some r18
          else
          (parquetlaw01_same.f N (if v ^ n.toNat < K then (enc (4294967296 : Int) (v ^ n.toNat), (0 : Int)) else ([], 3)).1 (if v ^ n.toNat < K then (enc (4294967296 : Int) (v ^ n.toNat), (0 : Int)) else ([], 3)).2 r17.1 0).bind fun r19 => some r19) = some true := by
        rw [hpw]
        by_cases hk : v ^ n.toNat < K
        · simp only [hk, if_true, Option.bind_some, Bool.not_true, cond_false, same_num hN ⟨pw0, hk⟩]
        · simp only [hk, if_false, Option.bind_some, Bool.not_false, cond_true, same_err N 3 (by decide)]
      by_cases hv0 : v = 0
      · subst hv0
        have c : decide (((enc (65536 : Int) 0).length : Int) > 0) = false := by rw [enc_zero H2]; rfl
        rw [c]
        simp only [cond_false, if_true, same_nil, Option.bind_some, Bool.not_true]
        rw [hshr]
        simp only [Option.bind_some, same_num hN ⟨q0, q1⟩, Bool.not_true, cond_false]
        exact fin
      · have hne : enc (65536 : Int) v ≠ [] := fun e => hv0 ((enc_nil H2 rv.lo).mp e)
        have hpos : 0 < (enc (65536 : Int) v).length := List.length_pos_iff.mpr hne
        have c : decide (((enc (65536 : Int) v).length : Int) > 0) = true := decide_eq_true (by omega)
        have hv1 : 0 < v := by have := rv.lo; omega
        rw [c]
        simp only [cond_true, hv0, if_false]
        by_cases hb : n > 4096
        · have nk : ¬ v * 2 ^ n.toNat < K := fun hlt => by
            have hpp := p2_pos n.toNat
            have m1 := Int.mul_le_mul_of_nonneg_right (show 1 ≤ v by omega) (Int.le_of_lt hpp)
            have m2 := p2_mono (show 4096 ≤ n.toNat by omega)
            unfold K at hlt
            omega
          simp only [hb, decide_true, cond_true, nk, if_false, same_err N 3 (by decide), Option.bind_some, Bool.not_true, cond_false]
          rw [hshr]
          simp only [Option.bind_some, same_num hN ⟨q0, q1⟩, Bool.not_true, cond_false]
          exact fin
        · simp only [hb, decide_false, cond_false]
          obtain ⟨x1, x2⟩ := rshl_enc hN hv1 (by omega) p0 (by omega)
          have m0 : 0 ≤ v * 2 ^ n.toNat := Int.mul_nonneg rv.lo (Int.le_of_lt (p2_pos _))
          rw [x1]
          simp only [Option.bind_some]
          rw [long_enc hN m0 (by omega)]
          simp only [Option.bind_some]
          have first : parquetlaw01_same.f N (if v * 2 ^ n.toNat < K then (enc (4294967296 : Int) (v * 2 ^ n.toNat), (0 : Int)) else ([], 3)).1 (if v * 2 ^ n.toNat < K then (enc (4294967296 : Int) (v * 2 ^ n.toNat), (0 : Int)) else ([], 3)).2 (enc (65536 : Int) (v * 2 ^ n.toNat)) (oe (v * 2 ^ n.toNat)) = some true := by
            by_cases hk : v * 2 ^ n.toNat < K
            · have : oe (v * 2 ^ n.toNat) = 0 := by unfold oe; rw [if_pos hk]
              rw [if_pos hk, this]
              exact same_num hN ⟨m0, hk⟩
            · have : oe (v * 2 ^ n.toNat) = 3 := by unfold oe; rw [if_neg hk]
              rw [if_neg hk, this]
              exact same_err N 3 (by decide) _
          rw [first]
          simp only [Option.bind_some, Bool.not_true, cond_false]
          rw [hshr]
          simp only [Option.bind_some, same_num hN ⟨q0, q1⟩, Bool.not_true, cond_false]
          exact fin
  · rfl

end Go.Proofs.Ytnjlpjdncejfcaa.Pure
