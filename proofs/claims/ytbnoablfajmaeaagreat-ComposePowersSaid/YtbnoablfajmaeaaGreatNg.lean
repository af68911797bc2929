-- Plain laws of the row law01: the document's numbers: digits, sums, differences, products.
import Derived.Test.YtbnoablfajmaeaaGreatNf
import Derived.KernelRfl
namespace Go.Proofs.YtbnoablfajmaeaaGreat.NatL
open Go Go.Proofs.YtbnoablfajmaeaaGreat.Ev
set_option linter.unusedVariables false
set_option linter.unusedSimpArgs false

theorem H2 : (2 : Int) ≤ (65536 : Int) := by decide
theorem Hpow (k : Nat) : (65536 : Int) ^ k = 2 ^ (16 * k) := by rw [Int.pow_mul]; rfl
theorem hpow_mono {i j : Nat} (h : i ≤ j) : (65536 : Int) ^ i ≤ (65536 : Int) ^ j := by
  rw [Hpow, Hpow, pow2_cast, pow2_cast]
  have := Nat.pow_le_pow_right (show 0 < 2 by decide) (show 16 * i ≤ 16 * j by omega)
  omega
theorem hpow_lt {i j : Nat} (h : (65536 : Int) ^ i < (65536 : Int) ^ j) : i < j := by
  rcases Nat.lt_or_ge i j with h1 | h1
  · exact h1
  · have := hpow_mono h1; omega

theorem step_h (s : Int) : s % (65536 : Int) + (65536 : Int) * (s / (65536 : Int)) = s := by
  have := Int.mul_ediv_add_emod s (65536 : Int); omega

theorem getD_beyond {l : List Int} {i : Nat} (h : l.length ≤ i) : l.getD i 0 = 0 := by
  rw [List.getD_eq_getElem?_getD, List.getElem?_eq_none h]; rfl

theorem nv_drop' (b : Int) (l : List Int) (i : Nat) : nv b (l.drop i) = l.getD i 0 + b * nv b (l.drop (i + 1)) := by
  rcases Nat.lt_or_ge i l.length with h | h
  · exact nv_drop b l i h
  · rw [List.drop_eq_nil_iff.mpr h, List.drop_eq_nil_iff.mpr (by omega), getD_beyond h]; simp [nv]

theorem rcut_loop (N : Nat) {R : Type} (l : List Int) (m : Nat) (hm : m ≤ l.length) (hm2 : m ≤ 1000000000) (k : Nat → Nat → Int → List Int → Option R) : ∀ (n i : Nat), i ≤ m → i < n → parquetref01_cut.l2 N n 0 m (i : Int) l k = k 0 m (cutN l i : Nat) l := by
  intro n
  induction n with
  | zero => intro i _ h; omega
  | succ n ih =>
    intro i hi hn
    rw [parquetref01_cut.l2]
    cases i with
    | zero => rfl
    | succ i =>
      have e1 : wi64 (((i + 1 : Nat) : Int) - 1) = (i : Int) := by rw [wi64_id (by omega) (by omega)]; omega
      have c0 : decide (((i + 1 : Nat) : Int) > 0) = true := decide_eq_true (by omega)
      have c1 : (decide (0 ≤ (i : Int)) && decide ((i : Int) < (m : Int))) = true := by simp; omega
      rw [e1, c1, c0]
      simp only [cond_true]
      have e2 : 0 + (i : Int).toNat = i := by omega
      rw [e2]
      unfold cutN
      by_cases hz : l.getD i 0 = 0
      · rw [if_pos hz]
        have : (l.getD i 0 == 0) = true := by simpa using hz
        rw [this]
        exact ih i (by omega) (by omega)
      · rw [if_neg hz]
        have : (l.getD i 0 == 0) = false := by simpa using hz
        rw [this]; rfl

theorem rcut_model {N : Nat} (hN : 1000000001 < N) (l : List Int) (m : Nat) (hm : m ≤ l.length) (hm2 : m ≤ 1000000000) : parquetref01_cut.f N 0 m l = some (0, cutN l m, l) := by
  unfold parquetref01_cut.f
  rw [rcut_loop N l m hm hm2 _ N m (Nat.le_refl _) (by omega)]
  have := cutN_le l m
  have c : ((decide (0 ≤ ((cutN l m : Nat) : Int)) && decide (((cutN l m : Nat) : Int) ≤ (m : Int))) && decide ((m : Int) ≤ (m : Int))) = true := by simp; omega
  rw [c]
  simp

theorem cutH_enc {l : List Int} (h : Dig (65536 : Int) l) : cutL l = enc (65536 : Int) (nv (65536 : Int) l) := enc_eq H2 (cutL_can h) (cutL_nv (65536 : Int) l)

/-- cut, of all of a row: what it leaves. -/
theorem rcut_all {N : Nat} (hN : 1000000001 < N) {l : List Int} (h : Dig (65536 : Int) l) (hl : l.length ≤ 1000000000) : ((parquetref01_cut.f N 0 l.length l).bind fun r => some ((r.2.2.drop r.1).take r.2.1)) = some (enc (65536 : Int) (nv (65536 : Int) l)) := by
  rw [rcut_model hN l _ (Nat.le_refl _) hl, ← cutH_enc h]
  simp [cutL]

theorem encH_len {v : Int} (h : 0 ≤ v) {k : Nat} (hk : v < (65536 : Int) ^ k) : (enc (65536 : Int) v).length ≤ k := by
  obtain ⟨h1, h2⟩ := enc_spec H2 h
  by_cases hne : enc (65536 : Int) v = []
  · rw [hne]; simp
  · have h3 := h1.lower (by decide) hne
    rw [h2] at h3
    rcases Nat.lt_or_ge k (enc (65536 : Int) v).length with h | h
    · exfalso
      have := hpow_mono (show k ≤ (enc (65536 : Int) v).length - 1 by omega)
      omega
    · exact h

theorem K_H : K = (65536 : Int) ^ 256 := by unfold K; rw [Hpow]

/- A machine's number -/
theorem rof_model {N : Nat} (hN : 1000000001 < N) {v : Int} (h0 : 0 ≤ v) (h1 : v < 18446744073709551616) : parquetref01_Of.f N v = some (enc (65536 : Int) v) := by
  unfold parquetref01_Of.f
  -- enough rounds
  have key : ∀ (n : Nat) (v : Int) (o : List Int), 0 ≤ v → v < 18446744073709551616 → ∀ k : Nat, v.toNat < 65536 ^ k → k < n → o.length + k ≤ 1000000 → parquetref01_Of.l2 N n v o (fun y5 => some y5) = some (o ++ enc (65536 : Int) v) := by
    intro n
    induction n with
    | zero => intro v o _ _ k _ h; omega
    | succ n ih =>
      intro v o h0 h1 k hk hkn hl
      rw [parquetref01_Of.l2]
      by_cases hv : v = 0
      · subst hv
        rw [enc_zero H2]; simp
      · have hk0 : k ≠ 0 := fun h => by subst h; simp at hk; omega
        obtain ⟨k, rfl⟩ : ∃ q, k = q + 1 := ⟨k - 1, by omega⟩
        rw [Nat.pow_succ] at hk
        have c0 : decide (v > 0) = true := decide_eq_true (by omega)
        rw [c0, roomy4 (by omega), tdiv_nn h0, tmod_nn h0, wu64_id (by omega) (by omega), wu32_id (by omega) (by omega)]
        simp only [cond_true]
        rw [ih (v / 65536) (o ++ [v % 65536]) (by omega) (by omega) k (by omega) (by omega) (by simp; omega)]
        congr 1
        obtain ⟨e1, e2⟩ := enc_spec H2 (show 0 ≤ v / 65536 by omega)
        have : (v % 65536) :: enc (65536 : Int) (v / 65536) = enc (65536 : Int) v := by
          refine enc_eq H2 ⟨Dig.cons (by omega) (by omega) e1.dig, fun _ => ?_⟩ (by simp only [nv, e2]; omega)
          cases hh : enc (65536 : Int) (v / 65536) with
          | nil =>
            have := (enc_nil H2 (show 0 ≤ v / 65536 by omega)).mp hh
            simp; omega
          | cons x l =>
            have := e1.top (by rw [hh]; simp)
            rw [hh] at this
            simpa using this
        rw [← this]; simp
  have := key N v [] h0 h1 4 (by have : 65536 ^ 4 = 18446744073709551616 := by decide
                                 omega) (by omega) (by simp)
  simpa using this

/- Sums -/
theorem radd_step (N n : Nat) {R : Type} {a b : List Int} (ha : Dig (65536 : Int) a) (hb : Dig (65536 : Int) b) (hal : a.length ≤ 1000000) (hbl : b.length ≤ 1000000) (c : Int) (c0 : 0 ≤ c) (c1 : c ≤ 1) (i : Nat) (hi : i ≤ 1000001) (o : List Int) (ho : o.length ≤ 1000001) (K0 : List Int → Option R) :
    parquetref01_Add.l4 N (n + 1) a b c (i : Int) o K0 = if i < a.length ∨ i < b.length ∨ 0 < c then parquetref01_Add.l4 N n a b ((c + a.getD i 0 + b.getD i 0) / (65536 : Int)) ((i + 1 : Nat) : Int) (o ++ [(c + a.getD i 0 + b.getD i 0) % (65536 : Int)]) K0 else K0 o := by
  have hx := ha.get (by decide) i
  have hy := hb.get (by decide) i
  have e2 : (i : Int).toNat = i := by omega
  have e3 : wi64 ((i : Int) + 1) = ((i + 1 : Nat) : Int) := by rw [wi64_id (by omega) (by omega)]; omega
  have hr := roomy4 (n := o.length + 1) (by omega)
  have m : ∀ s : Int, 0 ≤ s → s < 4294967296 → wu32 (Int.tdiv (wu32 s) 65536) = s / 65536 ∧ Int.tmod (wu32 s) 65536 = s % 65536 := fun s h0 h1 => by
    rw [wu32_id h0 h1, tdiv_nn h0, tmod_nn h0, wu32_id (by omega) (by omega)]; exact ⟨rfl, rfl⟩
  have w1 : wu32 (c + a.getD i 0) = c + a.getD i 0 := wu32_id (by omega) (by omega)
  rw [parquetref01_Add.l4]
  by_cases h1 : i < a.length
  · have d1 : decide ((i : Int) < (a.length : Int)) = true := decide_eq_true (by omega)
    have q1 : (decide (0 ≤ (i : Int)) && decide ((i : Int) < (a.length : Int))) = true := by simp; omega
    rw [if_pos (.inl h1), q1, d1, e2, e3, hr]
    simp only [cond_true]
    by_cases h2 : i < b.length
    · have d2 : decide ((i : Int) < (b.length : Int)) = true := decide_eq_true (by omega)
      have q2 : (decide (0 ≤ (i : Int)) && decide ((i : Int) < (b.length : Int))) = true := by simp; omega
      rw [q2, d2, w1, (m (c + a.getD i 0 + b.getD i 0) (by omega) (by omega)).1, (m (c + a.getD i 0 + b.getD i 0) (by omega) (by omega)).2]
      rfl
    · have d2 : decide ((i : Int) < (b.length : Int)) = false := decide_eq_false (by omega)
      have z : b.getD i 0 = 0 := getD_beyond (by omega)
      rw [d2, z, (m (c + a.getD i 0) (by omega) (by omega)).1, (m (c + a.getD i 0) (by omega) (by omega)).2]
      simp only [cond_false, Int.add_zero]
  · have d1 : decide ((i : Int) < (a.length : Int)) = false := decide_eq_false (by omega)
    have za : a.getD i 0 = 0 := getD_beyond (by omega)
    rw [d1, e2, e3, hr]
    simp only [cond_true, cond_false]
    by_cases h2 : i < b.length
    · have d2 : decide ((i : Int) < (b.length : Int)) = true := decide_eq_true (by omega)
      have q2 : (decide (0 ≤ (i : Int)) && decide ((i : Int) < (b.length : Int))) = true := by simp; omega
      rw [if_pos (.inr (.inl h2)), q2, d2, za, (m (c + b.getD i 0) (by omega) (by omega)).1, (m (c + b.getD i 0) (by omega) (by omega)).2]
      simp only [cond_true, Int.add_zero]
    · have d2 : decide ((i : Int) < (b.length : Int)) = false := decide_eq_false (by omega)
      have zb : b.getD i 0 = 0 := getD_beyond (by omega)
      rw [d2, za, zb]
      simp only [cond_false]
      by_cases h3 : 0 < c
      · have d3 : decide (c > 0) = true := decide_eq_true h3
        rw [if_pos (.inr (.inr h3)), d3, tdiv_nn c0, tmod_nn c0, wu32_id (n := c / 65536) (by omega) (by omega)]
        simp only [cond_true, Int.add_zero]
      · have d3 : decide (c > 0) = false := decide_eq_false h3
        rw [if_neg (by omega), d3]
        rfl

theorem radd_loop (N : Nat) {R : Type} {a b : List Int} (ha : Dig (65536 : Int) a) (hb : Dig (65536 : Int) b) (hal : a.length ≤ 1000000) (hbl : b.length ≤ 1000000) (K0 : List Int → Option R) : ∀ (n i : Nat) (c : Int) (o : List Int), Dig (65536 : Int) o → o.length = i → i ≤ 1000001 → 0 ≤ c → c ≤ 1 → max a.length b.length + 2 - i < n → i ≤ max a.length b.length + 1 → (i = max a.length b.length + 1 → c = 0) →
    ∃ r, Dig (65536 : Int) r ∧ r.length ≤ 1000001 ∧ nv (65536 : Int) r = nv (65536 : Int) o + (65536 : Int) ^ i * (c + nv (65536 : Int) (a.drop i) + nv (65536 : Int) (b.drop i)) ∧ parquetref01_Add.l4 N n a b c (i : Int) o K0 = K0 r := by
  intro n
  induction n with
  | zero => intro i c o _ _ _ _ _ h; omega
  | succ n ih =>
    intro i c o hd hol hi c0 c1 hn him hlast
    rw [radd_step N n ha hb hal hbl c c0 c1 i hi o (by omega)]
    have hx := ha.get (by decide) i
    have hy := hb.get (by decide) i
    by_cases hc : i < a.length ∨ i < b.length ∨ 0 < c
    · rw [if_pos hc]
      generalize hs : c + a.getD i 0 + b.getD i 0 = s
      have hsd := step_h s
      obtain ⟨r, r1, r2, r3, r4⟩ := ih (i + 1) (s / (65536 : Int)) (o ++ [s % (65536 : Int)]) (hd.append (Dig.cons (by omega) (by omega) (Dig.nil _))) (by simp [hol]) (by omega) (by omega) (by omega) (by omega) (by omega) (fun h => by
        have z1 : a.getD i 0 = 0 := getD_beyond (by omega)
        have z2 : b.getD i 0 = 0 := getD_beyond (by omega)
        omega)
      refine ⟨r, r1, r2, ?_, r4⟩
      rw [r3, nv_append, hol, nv_drop' (65536 : Int) a i, nv_drop' (65536 : Int) b i, Int.pow_succ]
      simp only [nv, Int.mul_zero, Int.add_zero]
      generalize s % (65536 : Int) = m at *
      generalize s / (65536 : Int) = z at *
      have em : m = s - (65536 : Int) * z := by omega
      subst em
      subst hs
      grind
    · rw [if_neg hc]
      refine ⟨o, hd, by omega, ?_, rfl⟩
      have hc0 : c = 0 := by omega
      rw [hc0, List.drop_eq_nil_iff.mpr (by omega), List.drop_eq_nil_iff.mpr (by omega)]
      simp [nv]

theorem radd_model {N : Nat} (hN : 1000000001 < N) {a b : List Int} (ha : Dig (65536 : Int) a) (hb : Dig (65536 : Int) b) (hal : a.length ≤ 1000000) (hbl : b.length ≤ 1000000) : parquetref01_Add.f N a b = some (enc (65536 : Int) (nv (65536 : Int) a + nv (65536 : Int) b)) := by
  unfold parquetref01_Add.f
  obtain ⟨r, r1, r2, r3, r4⟩ := radd_loop N ha hb hal hbl (fun y9 => (parquetref01_cut.f N 0 y9.length y9).bind fun r10 => some ((r10.2.2.drop r10.1).take r10.2.1)) N 0 0 [] (Dig.nil _) rfl (by omega) (by omega) (by omega) (by omega) (by omega) (fun _ => rfl)
  have ez : ((0 : Nat) : Int) = 0 := rfl
  rw [ez] at r4
  rw [r4, rcut_all hN r1 (by omega), r3]
  simp [nv]

/- Differences -/
theorem rsub_loop (N : Nat) {R : Type} {a b : List Int} (ha : Dig (65536 : Int) a) (hb : Dig (65536 : Int) b) (hal : a.length ≤ 1000000) (hle : b.length ≤ a.length) (K0 : List Int → Option R) : ∀ (n i : Nat) (c : Int) (o : List Int), Dig (65536 : Int) o → o.length = i → i ≤ a.length → 0 ≤ c → c ≤ 1 → a.length - i < n →
    0 ≤ nv (65536 : Int) o + (65536 : Int) ^ i * (nv (65536 : Int) (a.drop i) - nv (65536 : Int) (b.drop i) - c) →
    ∃ r, Dig (65536 : Int) r ∧ r.length ≤ 1000000 ∧ nv (65536 : Int) r = nv (65536 : Int) o + (65536 : Int) ^ i * (nv (65536 : Int) (a.drop i) - nv (65536 : Int) (b.drop i) - c) ∧ parquetref01_Sub.l4 N n a b c (i : Int) o K0 = K0 r := by
  intro n
  induction n with
  | zero => intro i c o _ _ _ _ _ h; omega
  | succ n ih =>
    intro i c o hd hol hi c0 c1 hn hpos
    have hx := ha.get (by decide) i
    have hy := hb.get (by decide) i
    rw [parquetref01_Sub.l4]
    by_cases h1 : i < a.length
    · have e2 : (i : Int).toNat = i := by omega
      have e3 : wi64 ((i : Int) + 1) = ((i + 1 : Nat) : Int) := by rw [wi64_id (by omega) (by omega)]; omega
      have hr := roomy4 (n := o.length + 1) (by omega)
      have d1 : decide ((i : Int) < (a.length : Int)) = true := decide_eq_true (by omega)
      have q1 : (decide (0 ≤ (i : Int)) && decide ((i : Int) < (a.length : Int))) = true := by simp; omega
      have w1 : wu32 (a.getD i 0 + 65536) = a.getD i 0 + 65536 := wu32_id (by omega) (by omega)
      have w2 : wu32 (a.getD i 0 + 65536 - c) = a.getD i 0 + 65536 - c := wu32_id (by omega) (by omega)
      have m : ∀ s : Int, 0 ≤ s → s < 131072 → wu32 (1 - (wu32 (Int.tdiv (wu32 s) 65536))) = 1 - s / 65536 ∧ Int.tmod (wu32 s) 65536 = s % 65536 := fun s h0 h1 => by
        rw [wu32_id h0 (by omega), tdiv_nn h0, tmod_nn h0, wu32_id (n := s / 65536) (by omega) (by omega), wu32_id (by omega) (by omega)]; exact ⟨rfl, rfl⟩
      have go : ∃ r, Dig (65536 : Int) r ∧ r.length ≤ 1000000 ∧ nv (65536 : Int) r = nv (65536 : Int) o + (65536 : Int) ^ i * (nv (65536 : Int) (a.drop i) - nv (65536 : Int) (b.drop i) - c) ∧ parquetref01_Sub.l4 N n a b (1 - (a.getD i 0 + 65536 - c - b.getD i 0) / 65536) ((i + 1 : Nat) : Int) (o ++ [(a.getD i 0 + 65536 - c - b.getD i 0) % 65536]) K0 = K0 r := by
        generalize hs : a.getD i 0 + 65536 - c - b.getD i 0 = s
        have hval : nv (65536 : Int) (o ++ [s % 65536]) + (65536 : Int) ^ (i + 1) * (nv (65536 : Int) (a.drop (i + 1)) - nv (65536 : Int) (b.drop (i + 1)) - (1 - s / 65536)) = nv (65536 : Int) o + (65536 : Int) ^ i * (nv (65536 : Int) (a.drop i) - nv (65536 : Int) (b.drop i) - c) := by
          rw [nv_append, hol, nv_drop' (65536 : Int) a i, nv_drop' (65536 : Int) b i, Int.pow_succ]
          simp only [nv, Int.mul_zero, Int.add_zero]
          have hsd := step_h s
          generalize s % (65536 : Int) = m at *
          generalize s / (65536 : Int) = z at *
          have em : m = s - (65536 : Int) * z := by omega
          subst em
          have : b.getD i 0 = a.getD i 0 + 65536 - c - s := by omega
          rw [this]
          grind
        obtain ⟨r, r1, r2, r3, r4⟩ := ih (i + 1) (1 - s / 65536) (o ++ [s % 65536]) (hd.append (Dig.cons (by omega) (by omega) (Dig.nil _))) (by simp [hol]) (by omega) (by omega) (by omega) (by omega) (by rw [hval]; exact hpos)
        exact ⟨r, r1, r2, by rw [r3, hval], r4⟩
      rw [q1, d1, e2, e3, hr, w1, w2]
      simp only [cond_true]
      by_cases h2 : i < b.length
      · have d2 : decide ((i : Int) < (b.length : Int)) = true := decide_eq_true (by omega)
        have q2 : (decide (0 ≤ (i : Int)) && decide ((i : Int) < (b.length : Int))) = true := by simp; omega
        obtain ⟨m1, m2⟩ := m (a.getD i 0 + 65536 - c - b.getD i 0) (by omega) (by omega)
        rw [q2, d2, m1, m2]
        exact go
      · have d2 : decide ((i : Int) < (b.length : Int)) = false := decide_eq_false (by omega)
        have zb : b.getD i 0 = 0 := getD_beyond (by omega)
        rw [zb, Int.sub_zero] at go
        have s0 : 0 ≤ a.getD i 0 + 65536 - c := by omega
        rw [d2, tdiv_nn s0, tmod_nn s0, wu32_id (n := (a.getD i 0 + 65536 - c) / 65536) (by omega) (by omega), wu32_id (n := 1 - (a.getD i 0 + 65536 - c) / 65536) (by omega) (by omega)]
        exact go
    · have d1 : decide ((i : Int) < (a.length : Int)) = false := decide_eq_false (by omega)
      rw [d1]
      have hi' : i = a.length := by omega
      have z1 : a.drop i = [] := List.drop_eq_nil_iff.mpr (by omega)
      have z2 : b.drop i = [] := List.drop_eq_nil_iff.mpr (by omega)
      rw [z1, z2] at hpos ⊢
      have hb2 := (nv_bound (show 0 < (65536 : Int) by decide) hd).2
      rw [hol] at hb2
      have hc0 : c = 0 := by
        rcases Int.lt_or_le 0 c with h | h
        · have : c = 1 := by omega
          subst this
          simp [nv] at hpos
          omega
        · omega
      subst hc0
      exact ⟨o, hd, by omega, by simp [nv], rfl⟩

theorem canH_len {a c : List Int} (ha : Can (65536 : Int) a) (hc : Can (65536 : Int) c) (h : a.length < c.length) : nv (65536 : Int) a < nv (65536 : Int) c := by
  have hne : c ≠ [] := by intro e; subst e; simp at h
  have h1 := hc.lower (by decide) hne
  have h2 := (nv_bound (show 0 < (65536 : Int) by decide) ha.dig).2
  have := hpow_mono (show a.length ≤ c.length - 1 by omega)
  omega

theorem rsub_enc {N : Nat} (hN : 1000000001 < N) {u v : Int} (hv : 0 ≤ v) (huv : v ≤ u) (hl : (enc (65536 : Int) u).length ≤ 1000000) : parquetref01_Sub.f N (enc (65536 : Int) u) (enc (65536 : Int) v) = some (enc (65536 : Int) (u - v)) := by
  obtain ⟨h1, h2⟩ := enc_spec H2 (show 0 ≤ u by omega)
  obtain ⟨h3, h4⟩ := enc_spec H2 hv
  have hle : (enc (65536 : Int) v).length ≤ (enc (65536 : Int) u).length := by
    rcases Nat.lt_or_ge (enc (65536 : Int) u).length (enc (65536 : Int) v).length with hq | hq
    · have := canH_len h1 h3 hq; omega
    · exact hq
  unfold parquetref01_Sub.f
  obtain ⟨r, r1, r2, r3, r4⟩ := rsub_loop N h1.dig h3.dig hl hle (fun y9 => (parquetref01_cut.f N 0 y9.length y9).bind fun r10 => some ((r10.2.2.drop r10.1).take r10.2.1)) N 0 0 [] (Dig.nil _) rfl (by omega) (by omega) (by omega) (by omega) (by simp [nv, h2, h4]; omega)
  have ez : ((0 : Nat) : Int) = 0 := rfl
  rw [ez] at r4
  rw [r4, rcut_all hN r1 (by omega), r3]
  simp [nv, h2, h4]

/- Products -/
theorem rmul_step (N n : Nat) {R : Type} {a b o : List Int} (ha : Dig (65536 : Int) a) (hb : Dig (65536 : Int) b) (ho : Dig (65536 : Int) o) (hal : a.length ≤ 1000000) (hbl : b.length ≤ 1000000) (c : Int) (c0 : 0 ≤ c) (c1 : c < (65536 : Int)) (i k : Nat) (hi : i < a.length) (hk : k ≤ b.length + 1) (hok : (k < b.length ∨ 0 < c) → i + k < o.length) (hol : o.length ≤ 2000000) (K0 : List Int → List Int → Int → List Int → Option R) :
    parquetref01_Mul.l7 N (n + 1) a b (i : Int) c (k : Int) o K0 = if k < b.length ∨ 0 < c then parquetref01_Mul.l7 N n a b (i : Int) ((o.getD (i + k) 0 + c + a.getD i 0 * b.getD k 0) / (65536 : Int)) ((k + 1 : Nat) : Int) (o.set (i + k) ((o.getD (i + k) 0 + c + a.getD i 0 * b.getD k 0) % (65536 : Int))) K0 else K0 a b (i : Int) o := by
  have hx := ha.get (by decide) i
  have hy := hb.get (by decide) k
  have hz := ho.get (by decide) (i + k)
  have m0 := Int.mul_nonneg hx.1 hy.1
  have m1 : a.getD i 0 * b.getD k 0 ≤ 65535 * 65535 := by
    have h1 := Int.mul_le_mul_of_nonneg_left (show b.getD k 0 ≤ 65535 by omega) hx.1
    have h2 := Int.mul_le_mul_of_nonneg_right (show a.getD i 0 ≤ 65535 by omega) (show (0 : Int) ≤ 65535 by decide)
    omega
  have e2 : (i : Int).toNat = i := by omega
  have e2' : (k : Int).toNat = k := by omega
  have e3 : wi64 ((k : Int) + 1) = ((k + 1 : Nat) : Int) := by rw [wi64_id (by omega) (by omega)]; omega
  have e4 : wi64 ((i : Int) + (k : Int)) = ((i + k : Nat) : Int) := by rw [wi64_id (by omega) (by omega)]; omega
  have e5 : (((i + k : Nat) : Int)).toNat = i + k := by omega
  have qa : (decide (0 ≤ (i : Int)) && decide ((i : Int) < (a.length : Int))) = true := by simp; omega
  have m : ∀ s : Int, 0 ≤ s → s < 4294967296 → wu64 (Int.tdiv (wu64 s) 65536) = s / 65536 ∧ wu32 (Int.tmod (wu64 s) 65536) = s % 65536 := fun s h0 h1 => by
    rw [wu64_id h0 (by omega), tdiv_nn h0, tmod_nn h0, wu64_id (by omega) (by omega), wu32_id (by omega) (by omega)]; exact ⟨rfl, rfl⟩
  have wz : wu64 (o.getD (i + k) 0) = o.getD (i + k) 0 := wu64_id (by omega) (by omega)
  have wzc : wu64 (o.getD (i + k) 0 + c) = o.getD (i + k) 0 + c := wu64_id (by omega) (by omega)
  have wa : wu64 (a.getD i 0) = a.getD i 0 := wu64_id (by omega) (by omega)
  have wb : wu64 (b.getD k 0) = b.getD k 0 := wu64_id (by omega) (by omega)
  have wab : wu64 (a.getD i 0 * b.getD k 0) = a.getD i 0 * b.getD k 0 := wu64_id (by omega) (by omega)
  rw [parquetref01_Mul.l7]
  by_cases h1 : k < b.length
  · have d1 : decide ((k : Int) < (b.length : Int)) = true := decide_eq_true (by omega)
    have qb : (decide (0 ≤ (k : Int)) && decide ((k : Int) < (b.length : Int))) = true := by simp; omega
    have hlt := hok (.inl h1)
    have qo : (decide (0 ≤ ((i + k : Nat) : Int)) && decide (((i + k : Nat) : Int) < (o.length : Int))) = true := by simp; omega
    obtain ⟨s1, s2⟩ := m (o.getD (i + k) 0 + c + a.getD i 0 * b.getD k 0) (by omega) (by omega)
    rw [if_pos (.inl h1), qb, qa, e4, qo, d1, e2, e2', e3, e5, wz, wzc, wa, wb, wab, s1, s2]
    rfl
  · have d1 : decide ((k : Int) < (b.length : Int)) = false := decide_eq_false (by omega)
    have zb : b.getD k 0 = 0 := getD_beyond (by omega)
    rw [d1]
    simp only [cond_false]
    by_cases h2 : 0 < c
    · have hlt := hok (.inr h2)
      have qo : (decide (0 ≤ ((i + k : Nat) : Int)) && decide (((i + k : Nat) : Int) < (o.length : Int))) = true := by simp; omega
      have d2 : decide (c > 0) = true := decide_eq_true h2
      obtain ⟨s1, s2⟩ := m (o.getD (i + k) 0 + c) (by omega) (by omega)
      rw [if_pos (.inr h2), e4, qo, d2, e3, e5, wz, s1, s2, zb]
      simp only [cond_true, Int.mul_zero, Int.add_zero]
    · have d2 : decide (c > 0) = false := decide_eq_false h2
      rw [if_neg (by omega), d2]
      rfl

theorem rmul_inner (N : Nat) {R : Type} {a b : List Int} (ha : Dig (65536 : Int) a) (hb : Dig (65536 : Int) b) (hal : a.length ≤ 1000000) (hbl : b.length ≤ 1000000) (i : Nat) (hi : i < a.length) (K0 : List Int → List Int → Int → List Int → Option R) : ∀ (n k : Nat) (c : Int) (o : List Int), Dig (65536 : Int) o → o.length = a.length + b.length → k ≤ b.length + 1 → 0 ≤ c → c < (65536 : Int) → b.length + 2 - k < n →
    nv (65536 : Int) o + (65536 : Int) ^ (i + k) * (c + a.getD i 0 * nv (65536 : Int) (b.drop k)) < (65536 : Int) ^ (i + 1 + b.length) →
    ∃ r, Dig (65536 : Int) r ∧ r.length = o.length ∧ nv (65536 : Int) r = nv (65536 : Int) o + (65536 : Int) ^ (i + k) * (c + a.getD i 0 * nv (65536 : Int) (b.drop k)) ∧ parquetref01_Mul.l7 N n a b (i : Int) c (k : Int) o K0 = K0 a b (i : Int) r := by
  intro n
  induction n with
  | zero => intro k c o _ _ _ _ _ h; omega
  | succ n ih =>
    intro k c o ho hol hk c0 c1 hn hlt
    have hx := ha.get (by decide) i
    have hy := hb.get (by decide) k
    have hz := ho.get (by decide) (i + k)
    have nvo := (nv_bound (show 0 < (65536 : Int) by decide) ho).1
    have nvb := (nv_bound (show 0 < (65536 : Int) by decide) (hb.drop k)).1
    have hpk : (0 : Int) < (65536 : Int) ^ (i + k) := Int.pow_pos (by decide)
    have kb : 0 < c → k ≤ b.length := fun h => by
      have m0 := Int.mul_nonneg hx.1 nvb
      have m1 := Int.mul_le_mul_of_nonneg_left (show 1 ≤ c + a.getD i 0 * nv (65536 : Int) (b.drop k) by omega) (Int.le_of_lt hpk)
      have := hpow_lt (i := i + k) (j := i + 1 + b.length) (by omega)
      omega
    have hok : (k < b.length ∨ 0 < c) → i + k < o.length := fun h => by
      rcases h with h | h
      · omega
      · have := kb h; omega
    rw [rmul_step N n ha hb ho hal hbl c c0 c1 i k hi hk hok (by omega)]
    by_cases hc : k < b.length ∨ 0 < c
    · rw [if_pos hc]
      have hkb : k ≤ b.length := by
        rcases hc with h | h
        · omega
        · exact kb h
      have m0 := Int.mul_nonneg hx.1 hy.1
      have m1 : a.getD i 0 * b.getD k 0 ≤ 65535 * 65535 := by
        have h1 := Int.mul_le_mul_of_nonneg_left (show b.getD k 0 ≤ 65535 by omega) hx.1
        have h2 := Int.mul_le_mul_of_nonneg_right (show a.getD i 0 ≤ 65535 by omega) (show (0 : Int) ≤ 65535 by decide)
        omega
      generalize hs : o.getD (i + k) 0 + c + a.getD i 0 * b.getD k 0 = s
      have hval : nv (65536 : Int) (o.set (i + k) (s % (65536 : Int))) + (65536 : Int) ^ (i + (k + 1)) * (s / (65536 : Int) + a.getD i 0 * nv (65536 : Int) (b.drop (k + 1))) = nv (65536 : Int) o + (65536 : Int) ^ (i + k) * (c + a.getD i 0 * nv (65536 : Int) (b.drop k)) := by
        rw [nv_set (65536 : Int) _ o (i + k) (by omega), nv_drop' (65536 : Int) b k]
        have e : i + (k + 1) = i + k + 1 := by omega
        rw [e, Int.pow_succ]
        have hsd := step_h s
        generalize s % (65536 : Int) = m at *
        generalize s / (65536 : Int) = z at *
        have em : m = s - (65536 : Int) * z := by omega
        subst em
        subst hs
        grind
      obtain ⟨r, r1, r2, r3, r4⟩ := ih (k + 1) (s / (65536 : Int)) (o.set (i + k) (s % (65536 : Int))) (ho.set _ (by omega) (by omega)) (by simpa using hol) (by omega) (by omega) (by omega) (by omega) (by rw [hval]; exact hlt)
      exact ⟨r, r1, by simpa using r2, by rw [r3, hval], r4⟩
    · rw [if_neg hc]
      refine ⟨o, ho, rfl, ?_, rfl⟩
      have hc0 : c = 0 := by omega
      rw [hc0, List.drop_eq_nil_iff.mpr (by omega)]
      simp [nv]

theorem rmul_outer {N : Nat} (hN : 1000000001 < N) {R : Type} {a b : List Int} (ha : Dig (65536 : Int) a) (hb : Dig (65536 : Int) b) (hal : a.length ≤ 1000000) (hbl : b.length ≤ 1000000) (K0 : List Int → Option R) : ∀ (n i : Nat) (o : List Int), Dig (65536 : Int) o → o.length = a.length + b.length → i ≤ a.length → a.length - i < n → nv (65536 : Int) o = nv (65536 : Int) (a.take i) * nv (65536 : Int) b →
    ∃ r, Dig (65536 : Int) r ∧ r.length = o.length ∧ nv (65536 : Int) r = nv (65536 : Int) a * nv (65536 : Int) b ∧ parquetref01_Mul.l3 N n a b (i : Int) o K0 = K0 r := by
  intro n
  induction n with
  | zero => intro i o _ _ _ h; omega
  | succ n ih =>
    intro i o ho hol hi hn hv
    rw [parquetref01_Mul.l3]
    by_cases h1 : i < a.length
    · have d1 : decide ((i : Int) < (a.length : Int)) = true := decide_eq_true (by omega)
      have e3 : wi64 ((i : Int) + 1) = ((i + 1 : Nat) : Int) := by rw [wi64_id (by omega) (by omega)]; omega
      have hval : nv (65536 : Int) o + (65536 : Int) ^ (i + 0) * (0 + a.getD i 0 * nv (65536 : Int) (b.drop 0)) = nv (65536 : Int) (a.take (i + 1)) * nv (65536 : Int) b := by
        rw [hv, nv_take_succ (65536 : Int) a i h1, List.drop_zero]
        simp only [Nat.add_zero, Int.zero_add]
        grind
      have b1 := nv_bound (show 0 < (65536 : Int) by decide) (ha.take (i + 1))
      have b2 := nv_bound (show 0 < (65536 : Int) by decide) hb
      have l1 : (a.take (i + 1)).length = i + 1 := by rw [List.length_take]; omega
      rw [l1] at b1
      have hlt : nv (65536 : Int) o + (65536 : Int) ^ (i + 0) * (0 + a.getD i 0 * nv (65536 : Int) (b.drop 0)) < (65536 : Int) ^ (i + 1 + b.length) := by
        rw [hval, Int.pow_add]
        have hp : (0 : Int) < (65536 : Int) ^ (i + 1) := Int.pow_pos (by decide)
        have m1 := Int.mul_le_mul_of_nonneg_right (show nv (65536 : Int) (a.take (i + 1)) ≤ (65536 : Int) ^ (i + 1) by omega) b2.1
        have m2 := Int.mul_lt_mul_of_pos_left b2.2 hp
        omega
      obtain ⟨r, r1, r2, r3, r4⟩ := rmul_inner N ha hb hal hbl i h1 (fun y17 y18 y19 y20 => parquetref01_Mul.l3 N n y17 y18 (wi64 (y19 + 1)) y20 K0) N 0 0 o ho hol (by omega) (by omega) (by decide) (by omega) hlt
      have ez : ((0 : Nat) : Int) = 0 := rfl
      rw [ez] at r4
      rw [d1, r4, e3]
      simp only [cond_true]
      obtain ⟨t, t1, t2, t3, t4⟩ := ih (i + 1) r r1 (by omega) (by omega) (by omega) (by rw [r3, hval])
      exact ⟨t, t1, by omega, t3, t4⟩
    · have d1 : decide ((i : Int) < (a.length : Int)) = false := decide_eq_false (by omega)
      rw [d1]
      refine ⟨o, ho, rfl, ?_, rfl⟩
      rw [hv, List.take_of_length_le (by omega)]

theorem rmul_model {N : Nat} (hN : 1000000001 < N) {a b : List Int} (ha : Dig (65536 : Int) a) (hb : Dig (65536 : Int) b) (hal : a.length ≤ 1000000) (hbl : b.length ≤ 1000000) : parquetref01_Mul.f N a b = some (enc (65536 : Int) (nv (65536 : Int) a * nv (65536 : Int) b)) := by
  unfold parquetref01_Mul.f
  have w : wi64 ((a.length : Int) + (b.length : Int)) = (a.length : Int) + (b.length : Int) := wi64_id (by omega) (by omega)
  have wt : ((a.length : Int) + (b.length : Int)).toNat = a.length + b.length := by omega
  rw [w, make_ok (by omega) (by omega), wt]
  simp only [cond_true]
  obtain ⟨r, r1, r2, r3, r4⟩ := rmul_outer hN ha hb hal hbl (fun y22 => (parquetref01_cut.f N 0 y22.length y22).bind fun r23 => some ((r23.2.2.drop r23.1).take r23.2.1)) N 0 (List.replicate (a.length + b.length) 0) (Dig.replicate (by decide) _) (by simp) (by omega) (by omega) (by rw [nv_replicate]; simp [nv])
  have ez : ((0 : Nat) : Int) = 0 := rfl
  rw [ez] at r4
  have hl : r.length = a.length + b.length := by simpa using r2
  rw [r4, rcut_all hN r1 (by omega), r3]


end Go.Proofs.YtbnoablfajmaeaaGreat.NatL
