-- Plain laws of the row law01: the document's numbers: digits, sums, differences, products.
import Derived.Test.YtifnooogklfifaaNf
import Derived.KernelRfl
namespace Go.Proofs.Ytifnooogklfifaa.NatL
open Go Go.Proofs.Ytifnooogklfifaa.Ev
set_option linter.unusedVariables false
set_option linter.unusedSimpArgs false

theorem H2 : (2 : Int) ≤ (65536 : Int) := by decide
theorem getD_beyond {l : List Int} {i : Nat} (h : l.length ≤ i) : l.getD i 0 = 0 := by
  rw [List.getD_eq_getElem?_getD, List.getElem?_eq_none h]; rfl

theorem nv_drop' (b : Int) (l : List Int) (i : Nat) : nv b (l.drop i) = l.getD i 0 + b * nv b (l.drop (i + 1)) := by
  rcases Nat.lt_or_ge i l.length with h | h
  · exact nv_drop b l i h
  · rw [List.drop_eq_nil_iff.mpr h, List.drop_eq_nil_iff.mpr (by omega), getD_beyond h]; simp [nv]


theorem p2_pos (k : Nat) : (0 : Int) < 2 ^ k := Int.pow_pos (by decide)
theorem p2_mono {i j : Nat} (h : i ≤ j) : (2 : Int) ^ i ≤ 2 ^ j := by
  have := Nat.pow_le_pow_right (show 0 < 2 by decide) h
  rw [pow2_cast, pow2_cast]; omega
theorem p2_31 {k : Nat} (h : k ≤ 31) : (2 : Int) ^ k ≤ 2147483648 := by
  have := p2_mono h
  have e : (2 : Int) ^ 31 = 2147483648 := by decide
  omega
theorem p2_split {k : Nat} (h : k ≤ 31) : (4294967296 : Int) = 2 ^ k * 2 ^ (32 - k) := by
  rw [← Int.pow_add]
  have : k + (32 - k) = 32 := by omega
  rw [this]; rfl

theorem or_low {c d : Int} {k : Nat} (hk : k ≤ 31) (c0 : 0 ≤ c) (c1 : c < 2 ^ k) (d0 : 0 ≤ d) (d1 : d < 4294967296) : bit_or .u64 c (d * 2 ^ k) = c + d * 2 ^ k := by
  have hp := p2_31 hk
  have hpp := p2_pos k
  have m1 := Int.mul_nonneg d0 (Int.le_of_lt hpp)
  have m2 := Int.mul_le_mul_of_nonneg_right (show d ≤ 4294967295 by omega) (Int.le_of_lt hpp)
  have e : bit_or .u64 c (d * 2 ^ k) = IntKind.wrap .u64 ((BitVec.ofInt 64 c ||| BitVec.ofInt 64 (d * 2 ^ k)).toNat : Int) := rfl
  rw [e, BitVec.toNat_or, ofInt64_toNat c0 (by omega), ofInt64_toNat m1 (by omega)]
  have h1 : (d * 2 ^ k).toNat = d.toNat <<< k := by
    rw [Nat.shiftLeft_eq, Int.toNat_mul d0 (Int.le_of_lt hpp)]
    have hpk : ((2 : Int) ^ k).toNat = 2 ^ k := by rw [pow2_cast]; exact Int.toNat_natCast _
    rw [hpk]
  have hc : c.toNat < 2 ^ k := by
    rw [pow2_cast] at c1; omega
  rw [h1, Nat.or_comm, ← Nat.shiftLeft_add_eq_or_of_lt hc, ← h1]
  have : IntKind.wrap .u64 (((d * 2 ^ k).toNat + c.toNat : Nat) : Int) = (((d * 2 ^ k).toNat + c.toNat : Nat) : Int) := by
    show wu64 _ = _
    exact wu64_id (by omega) (by omega)
  rw [this]
  omega

/-- Digits times a power of 2. -/
theorem up_loop (N : Nat) {R : Type} {d : List Int} (hd : Dig (4294967296 : Int) d) (k : Nat) (hk : k ≤ 31) (K0 : List Int → Option R) : ∀ (n i : Nat) (c : Int) (o : List Int), Dig (4294967296 : Int) o → o.length ≤ 1000000000 → i ≤ o.length → o.length - i < n → 0 ≤ c → c < 2 ^ k → (∀ j, i ≤ j → o.getD j 0 = 0) →
    ∃ r c', Dig (4294967296 : Int) r ∧ r.length = o.length ∧ 0 ≤ c' ∧ nv (4294967296 : Int) r + (4294967296 : Int) ^ o.length * (c' + 2 ^ k * nv (4294967296 : Int) (d.drop o.length)) = nv (4294967296 : Int) o + (4294967296 : Int) ^ i * (c + 2 ^ k * nv (4294967296 : Int) (d.drop i)) ∧
      nat_up.l4 N n d (k : Int) c (o.length : Int) (i : Int) o K0 = K0 r := by
  intro n
  induction n with
  | zero => intro i c o _ _ _ h; omega
  | succ n ih =>
    intro i c o ho hol hi hn c0 c1 hz
    rw [nat_up.l4]
    by_cases hil : i < o.length
    · have e0 : decide ((i : Int) < (o.length : Int)) = true := decide_eq_true (by omega)
      have e1 : (decide (0 ≤ (i : Int)) && decide ((i : Int) < (o.length : Int))) = true := by simp; omega
      have e2 : (i : Int).toNat = i := by omega
      have e3 : wi64 ((i : Int) + 1) = ((i + 1 : Nat) : Int) := by rw [wi64_id (by omega) (by omega)]; omega
      have hp := p2_31 hk
      have hpp := p2_pos k
      have p32 : (2 : Int) ^ 32 = 4294967296 := by decide
      have go : ∀ x : Int, x = c + d.getD i 0 * 2 ^ k → ∃ r c', Dig (4294967296 : Int) r ∧ r.length = o.length ∧ 0 ≤ c' ∧ nv (4294967296 : Int) r + (4294967296 : Int) ^ o.length * (c' + 2 ^ k * nv (4294967296 : Int) (d.drop o.length)) = nv (4294967296 : Int) o + (4294967296 : Int) ^ i * (c + 2 ^ k * nv (4294967296 : Int) (d.drop i)) ∧
          nat_up.l4 N n d (k : Int) (x / 4294967296) (o.length : Int) ((i + 1 : Nat) : Int) (o.set i (x % 4294967296)) K0 = K0 r := by
        intro x hx
        have hdg := hd.get (by decide) i
        have m1 := Int.mul_nonneg hdg.1 (Int.le_of_lt hpp)
        have m2 := Int.mul_le_mul_of_nonneg_right (show d.getD i 0 ≤ 4294967295 by omega) (Int.le_of_lt hpp)
        obtain ⟨r, c', r1, r2, r3, r4, r5⟩ := ih (i + 1) (x / 4294967296) (o.set i (x % 4294967296)) (ho.set _ (by omega) (by omega)) (by simpa using hol) (by simp; omega) (by simp; omega) (by omega) (by omega) (fun j hj => by
          have := hz j (by omega)
          simp only [List.getD_eq_getElem?_getD, List.getElem?_set] at this ⊢
          rw [if_neg (by omega)]; exact this)
        have hl : (o.set i (x % 4294967296)).length = o.length := by simp
        rw [hl] at r2 r4 r5
        refine ⟨r, c', r1, r2, r3, ?_, r5⟩
        rw [r4, nv_set _ _ o i hil, nv_drop' _ d i, hz i (Nat.le_refl _), Int.pow_succ]
        have hsd := step_digit x
        generalize x % 4294967296 = m at *
        generalize x / 4294967296 = z at *
        have em : m = x - 4294967296 * z := by omega
        subst em
        subst hx
        grind
      rw [e1, e0, e2, e3]
      simp only [cond_true]
      by_cases hid : i < d.length
      · have f0 : decide ((i : Int) < (d.length : Int)) = true := decide_eq_true (by omega)
        have f1 : (decide (0 ≤ (i : Int)) && decide ((i : Int) < (d.length : Int))) = true := by simp; omega
        have f2 : decide (0 ≤ (k : Int)) = true := decide_eq_true (by omega)
        have hdg := hd.get (by decide) i
        have m1 := Int.mul_nonneg hdg.1 (Int.le_of_lt hpp)
        have m2 := Int.mul_le_mul_of_nonneg_right (show d.getD i 0 ≤ 4294967295 by omega) (Int.le_of_lt hpp)
        have hm : min (k : Int).toNat 64 = k := by omega
        rw [f1, f0, f2, hm, wu64_id (n := d.getD i 0) (by omega) (by omega), wu64_id (n := d.getD i 0 * 2 ^ k) m1 (by omega), or_low hk c0 c1 hdg.1 hdg.2, fdiv_pow, p32, wu32_mod]
        exact go _ rfl
      · have f0 : decide ((i : Int) < (d.length : Int)) = false := decide_eq_false (by omega)
        have zd : d.getD i 0 = 0 := getD_beyond (by omega)
        have := go c (by rw [zd]; simp)
        rw [f0]
        simp only [cond_false]
        rw [fdiv_pow, p32, wu32_mod]
        exact this
    · have e0 : decide ((i : Int) < (o.length : Int)) = false := decide_eq_false (by omega)
      have : i = o.length := by omega
      subst this
      rw [e0]
      exact ⟨o, c, ho, rfl, c0, rfl, rfl⟩

theorem make_oknat {m : Nat} (h1 : m ≤ 1000000000) : (decide ((m : Int) = (m : Int)) && decide (0 ≤ (m : Int)) && decide ((m : Int) ≤ 9223372036854775807) && roomy (m : Int).toNat 4) = true := make_ok (by omega) (by omega)

theorem make_oknat2 {m : Nat} (h1 : m ≤ 1000000000) : (decide True && decide (0 ≤ (m : Int)) && decide ((m : Int) ≤ 9223372036854775807) && roomy (m : Int).toNat 4) = true := make_ok2 (by omega) (by omega)

theorem rep_get (n j : Nat) : (List.replicate n (0 : Int)).getD j 0 = 0 := by
  rw [List.getD_eq_getElem?_getD, List.getElem?_replicate]; split <;> rfl

/-- up, where it fits. -/
theorem up_model {N : Nat} (hN : 1000000001 < N) {d : List Int} (hd : Dig (4294967296 : Int) d) {k : Nat} (hk : k ≤ 31) {m : Nat} (hm : m ≤ 1000000000) (hdm : d.length ≤ m) (hfit : 2 ^ k * nv (4294967296 : Int) d < (4294967296 : Int) ^ m) :
    ∃ r, Dig (4294967296 : Int) r ∧ r.length = m ∧ nv (4294967296 : Int) r = 2 ^ k * nv (4294967296 : Int) d ∧ nat_up.f N d (k : Int) (m : Int) = some r := by
  unfold nat_up.f
  have et : ((m : Nat) : Int).toNat = m := by omega
  rw [make_oknat hm, et]
  simp only [cond_true]
  obtain ⟨r, c', r1, r2, r3, r4, r5⟩ := up_loop N hd k hk (fun y11 => some y11) N 0 0 (List.replicate m 0) (Dig.replicate (by decide) _) (by simpa using hm) (by omega) (by simp; omega) (by omega) (p2_pos k) (fun j _ => rep_get m j)
  have hl : (List.replicate m (0 : Int)).length = m := by simp
  have ez : ((0 : Nat) : Int) = 0 := rfl
  rw [hl] at r2 r4 r5
  rw [ez] at r5
  rw [hl, r5]
  rw [List.drop_eq_nil_iff.mpr hdm, nv_replicate] at r4
  simp only [nv, Int.mul_zero, Int.add_zero, Int.zero_add, Int.pow_zero, Int.one_mul, List.drop_zero] at r4
  have hb := (nv_bound (show (0 : Int) < 4294967296 by decide) r1).1
  have hp : (0 : Int) < (4294967296 : Int) ^ m := Int.pow_pos (by decide)
  have hc : c' = 0 := by
    rcases Int.lt_or_le 0 c' with h | h
    · have := Int.mul_le_mul_of_nonneg_left (show 1 ≤ c' by omega) (Int.le_of_lt hp)
      omega
    · omega
  subst hc
  exact ⟨r, r1, r2, by simpa using r4, rfl⟩

/-- Digits divided by a power of 2. -/
theorem down_loop (N : Nat) {R : Type} {d : List Int} (hd : Dig (4294967296 : Int) d) (hdl : d.length ≤ 1000000000) (k : Nat) (hk : k ≤ 31) (K0 : List Int → Option R) : ∀ (n i : Nat) (o : List Int), Dig (4294967296 : Int) o → o.length = d.length → i ≤ d.length → d.length - i < n → (∀ j, i ≤ j → o.getD j 0 = 0) →
    ∃ r, Dig (4294967296 : Int) r ∧ r.length = d.length ∧ nv (4294967296 : Int) r = nv (4294967296 : Int) o + (4294967296 : Int) ^ i * (nv (4294967296 : Int) (d.drop i) / 2 ^ k) ∧
      nat_down.l3 N n d (k : Int) (d.length : Int) (i : Int) o K0 = K0 r := by
  intro n
  induction n with
  | zero => intro i o _ _ _ h; omega
  | succ n ih =>
    intro i o ho hol hi hn hz
    rw [nat_down.l3]
    by_cases hil : i < d.length
    · have e0 : decide ((i : Int) < (d.length : Int)) = true := decide_eq_true (by omega)
      have e1 : (decide (0 ≤ (i : Int)) && decide ((i : Int) < (d.length : Int))) = true := by simp; omega
      have e1o : (decide (0 ≤ (i : Int)) && decide ((i : Int) < (o.length : Int))) = true := by simp; omega
      have e2 : (i : Int).toNat = i := by omega
      have e3 : wi64 ((i : Int) + 1) = ((i + 1 : Nat) : Int) := by rw [wi64_id (by omega) (by omega)]; omega
      have e4 : (((i + 1 : Nat) : Int)).toNat = i + 1 := by omega
      have f2 : decide (0 ≤ (k : Int)) = true := decide_eq_true (by omega)
      have hm : min (k : Int).toNat 64 = k := by omega
      have hpp := p2_pos k
      have hp31 := p2_31 hk
      have hsp := p2_split hk
      have hpp2 := p2_pos (32 - k)
      have hx := hd.get (by decide) i
      have hy := hd.get (by decide) (i + 1)
      have p32 : (2 : Int) ^ 32 = 4294967296 := by decide
      have hnd := nv_drop' (4294967296 : Int) d i
      -- the digit
      have key : ∀ x : Int, x = d.getD i 0 + 4294967296 * d.getD (i + 1) 0 → nv (4294967296 : Int) (d.drop i) / 2 ^ k = (x / 2 ^ k) % 4294967296 + 4294967296 * (nv (4294967296 : Int) (d.drop (i + 1)) / 2 ^ k) := by
        intro x hxx
        have hnd2 := nv_drop' (4294967296 : Int) d (i + 1)
        generalize hY : nv (4294967296 : Int) (d.drop (i + 1)) = Y at *
        generalize nv (4294967296 : Int) (d.drop (i + 1 + 1)) = Z at *
        have d1 := Int.mul_ediv_add_emod Y (2 ^ k)
        have d2 := Int.emod_nonneg Y (b := 2 ^ k) (by omega)
        have d3 := Int.emod_lt_of_pos Y hpp
        -- Y's rest is its lowest digit's rest
        have d4 := Int.mul_ediv_add_emod (d.getD (i + 1) 0) (2 ^ k)
        have d5 := Int.emod_nonneg (d.getD (i + 1) 0) (b := 2 ^ k) (by omega)
        have d6 := Int.emod_lt_of_pos (d.getD (i + 1) 0) hpp
        have hrest : Y % 2 ^ k = d.getD (i + 1) 0 % 2 ^ k := by
          have : Y = d.getD (i + 1) 0 + 2 ^ k * (2 ^ (32 - k) * Z) := by rw [hnd2, ← Int.mul_assoc, ← hsp]
          rw [this, Int.add_mul_emod_self_left]
        generalize Y / 2 ^ k = q at *
        generalize hs : Y % 2 ^ k = s at *
        generalize d.getD (i + 1) 0 / 2 ^ k = q' at *
        rw [← hrest] at d4
        have h1 : nv (4294967296 : Int) (d.drop i) = d.getD i 0 + 4294967296 * s + 2 ^ k * (4294967296 * q) := by rw [hnd, ← d1]; grind
        have h2 : x = d.getD i 0 + 4294967296 * s + 2 ^ k * (4294967296 * q') := by rw [hxx, ← d4]; grind
        rw [h1, h2, Int.add_mul_ediv_left _ _ (by omega), Int.add_mul_ediv_left _ _ (by omega), Int.add_mul_emod_self_left]
        have hlt : (d.getD i 0 + 4294967296 * s) / 2 ^ k < 4294967296 := by
          rw [Int.ediv_lt_iff_lt_mul hpp]
          have := Int.mul_le_mul_of_nonneg_left (show s + 1 ≤ 2 ^ k by omega) (show (0 : Int) ≤ 4294967296 by decide)
          omega
        have hge : 0 ≤ (d.getD i 0 + 4294967296 * s) / 2 ^ k := Int.ediv_nonneg (by omega) (by omega)
        rw [Int.emod_eq_of_lt hge hlt]
      have go : ∀ x : Int, x = d.getD i 0 + 4294967296 * d.getD (i + 1) 0 → ∃ r, Dig (4294967296 : Int) r ∧ r.length = d.length ∧ nv (4294967296 : Int) r = nv (4294967296 : Int) o + (4294967296 : Int) ^ i * (nv (4294967296 : Int) (d.drop i) / 2 ^ k) ∧
          nat_down.l3 N n d (k : Int) (d.length : Int) ((i + 1 : Nat) : Int) (o.set i ((x / 2 ^ k) % 4294967296)) K0 = K0 r := by
        intro x hxx
        obtain ⟨r, r1, r2, r3, r4⟩ := ih (i + 1) (o.set i ((x / 2 ^ k) % 4294967296)) (ho.set _ (by omega) (by omega)) (by simpa using hol) (by omega) (by omega) (fun j hj => by
          have := hz j (by omega)
          simp only [List.getD_eq_getElem?_getD, List.getElem?_set] at this ⊢
          rw [if_neg (by omega)]; exact this)
        refine ⟨r, r1, r2, ?_, r4⟩
        rw [r3, nv_set _ _ o i (by omega), hz i (Nat.le_refl _), key x hxx, Int.pow_succ]
        grind
      rw [e1, e0, e3, e4, f2, e1o, e2, hm]
      simp only [cond_true]
      by_cases hid : i + 1 < d.length
      · have f0 : decide (((i + 1 : Nat) : Int) < (d.length : Int)) = true := decide_eq_true (by omega)
        have f1 : (decide (0 ≤ ((i + 1 : Nat) : Int)) && decide (((i + 1 : Nat) : Int) < (d.length : Int))) = true := by simp; omega
        rw [f1, f0, wu64_id (n := d.getD i 0) (by omega) (by omega), wu64_id (n := d.getD (i + 1) 0) (by omega) (by omega), p32, wu64_id (n := d.getD (i + 1) 0 * 4294967296) (by omega) (by omega)]
        have hor : bit_or .u64 (d.getD i 0) (d.getD (i + 1) 0 * 4294967296) = d.getD i 0 + 4294967296 * d.getD (i + 1) 0 := by
          have e : ∀ a b : Int, bit_or .u64 a b = bit_or .u64 b a := fun a b => by unfold bit_or; rw [BitVec.or_comm]
          rw [e, or_shift hy.1 hy.2 hx.1 hx.2]; omega
        rw [hor, fdiv_pow, wu32_mod]
        exact go _ rfl
      · have f0 : decide (((i + 1 : Nat) : Int) < (d.length : Int)) = false := decide_eq_false (by omega)
        have zd : d.getD (i + 1) 0 = 0 := getD_beyond (by omega)
        have := go (d.getD i 0) (by rw [zd]; simp)
        rw [f0, wu64_id (n := d.getD i 0) (by omega) (by omega)]
        simp only [cond_false]
        rw [fdiv_pow, wu32_mod]
        exact this
    · have e0 : decide ((i : Int) < (d.length : Int)) = false := decide_eq_false (by omega)
      rw [e0, List.drop_eq_nil_iff.mpr (by omega)]
      exact ⟨o, ho, hol, by simp [nv], rfl⟩

theorem down_model {N : Nat} (hN : 1000000001 < N) {d : List Int} (hd : Dig (4294967296 : Int) d) (hdl : d.length ≤ 1000000000) {k : Nat} (hk : k ≤ 31) : nat_down.f N d (k : Int) = some (enc (4294967296 : Int) (nv (4294967296 : Int) d / 2 ^ k)) := by
  unfold nat_down.f
  have et : ((d.length : Nat) : Int).toNat = d.length := by omega
  rw [make_oknat hdl, et]
  simp only [cond_true]
  obtain ⟨r, r1, r2, r3, r4⟩ := down_loop N hd hdl k hk (fun y9 => (nat_cut.f N 0 y9.length y9).bind fun r10 => some ((r10.2.2.drop r10.1).take r10.2.1)) N 0 (List.replicate d.length 0) (Dig.replicate (by decide) _) (by simp) (by omega) (by omega) (fun j _ => rep_get _ j)
  have ez : ((0 : Nat) : Int) = 0 := rfl
  rw [ez] at r4
  rw [r4]
  obtain ⟨c1, c2⟩ := cut_all hN r (by omega)
  rw [c1]
  simp only [Option.bind_some, c2]
  rw [cutL_enc r1, r3, nv_replicate]
  simp

theorem blen_zero_iff {v : Int} (h : 0 ≤ v) : blen v = 0 ↔ v = 0 := by
  have h0 := blen_le h 0
  have e0 : (2 : Int) ^ 0 = 1 := rfl
  rw [e0] at h0
  have := blen_nonneg v
  constructor
  · intro hq
    have := h0.mp (by omega)
    omega
  · intro hq
    have := h0.mpr (by omega)
    omega


end Go.Proofs.Ytifnooogklfifaa.NatL
