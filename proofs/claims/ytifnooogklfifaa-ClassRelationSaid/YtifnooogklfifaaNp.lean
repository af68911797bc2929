-- Plain laws of the row law01: Div, Gcd.
import Derived.Test.YtifnooogklfifaaNo
import Derived.KernelRfl
namespace Go.Proofs.Ytifnooogklfifaa.NatL
open Go Go.Proofs.Ytifnooogklfifaa.Ev
set_option linter.unusedVariables false
set_option linter.unusedSimpArgs false

theorem top_split {l : List Int} (h : Dig (4294967296 : Int) l) {n : Nat} (hn : l.length = n + 1) : nv (4294967296 : Int) l = nv (4294967296 : Int) (l.take n) + (4294967296 : Int) ^ n * l.getD n 0 ∧ 0 ≤ nv (4294967296 : Int) (l.take n) ∧ nv (4294967296 : Int) (l.take n) < (4294967296 : Int) ^ n := by
  have h1 := nv_take_succ (4294967296 : Int) l n (by omega)
  have h2 : l.take (n + 1) = l := List.take_of_length_le (by omega)
  rw [h2] at h1
  have h3 := nv_bound (show (0 : Int) < (4294967296 : Int) by decide) (h.take n)
  have h4 : (l.take n).length = n := by rw [List.length_take]; omega
  rw [h4] at h3
  exact ⟨h1, h3.1, h3.2⟩

/-- How far a digit is from full. -/
theorem lead {x : Int} (h0 : 0 < x) (h1 : x < (4294967296 : Int)) : ∃ k : Nat, k ≤ 31 ∧ wi64 (32 - blen x) = (k : Int) ∧ 2147483648 ≤ 2 ^ k * x ∧ 2 ^ k * (x + 1) ≤ (4294967296 : Int) := by
  have b0 := blen_nonneg x
  have b1 : blen x ≤ (32 : Nat) := (blen_le (Int.le_of_lt h0) 32).mpr (by rw [show (2 : Int) ^ 32 = (4294967296 : Int) from two32]; exact h1)
  have b2 : ¬ blen x ≤ (0 : Nat) := fun h => by have := (blen_le (Int.le_of_lt h0) 0).mp h; simp at this; omega
  obtain ⟨m, hm⟩ : ∃ m : Nat, blen x = (m : Int) + 1 := ⟨(blen x).toNat - 1, by omega⟩
  have hm31 : m ≤ 31 := by omega
  have u1 : x < 2 ^ (m + 1) := (blen_le (Int.le_of_lt h0) (m + 1)).mp (by omega)
  have u2 : ¬ x < 2 ^ m := fun h => by have := (blen_le (Int.le_of_lt h0) m).mpr h; omega
  refine ⟨31 - m, by omega, by rw [wi64_id (by omega) (by omega)]; omega, ?_, ?_⟩
  · have := Int.mul_le_mul_of_nonneg_left (show (2 : Int) ^ m ≤ x by omega) (Int.le_of_lt (p2_pos (31 - m)))
    rw [← Int.pow_add] at this
    have e : 31 - m + m = 31 := by omega
    rw [e] at this
    have e2 : (2 : Int) ^ 31 = 2147483648 := by decide
    omega
  · have := Int.mul_le_mul_of_nonneg_left (show x + 1 ≤ (2 : Int) ^ (m + 1) by omega) (Int.le_of_lt (p2_pos (31 - m)))
    rw [← Int.pow_add] at this
    have e : 31 - m + (m + 1) = 32 := by omega
    rw [e, two32] at this
    exact this

theorem long_model {N : Nat} (hN : 1000000001 < N) {a b : List Int} (ha : Can (4294967296 : Int) a) (hb : Can (4294967296 : Int) b) (h2 : 2 ≤ b.length) (hle : b.length ≤ a.length) (hs : a.length ≤ 1000000) :
    nat_long.f N a b = some (enc (4294967296 : Int) (nv (4294967296 : Int) a / nv (4294967296 : Int) b), enc (4294967296 : Int) (nv (4294967296 : Int) a % nv (4294967296 : Int) b)) := by
  obtain ⟨n, hn⟩ : ∃ n, b.length = n + 1 := ⟨b.length - 1, by omega⟩
  have hbne : b ≠ [] := fun h => by rw [h] at h2; simp at h2
  have htop := hb.top hbne
  have hbl := hb.lower (by decide) hbne
  have w1 : wi64 ((b.length : Int) - 1) = (n : Int) := by rw [wi64_id (by omega) (by omega)]; omega
  have t1 : (n : Int).toNat = n := by omega
  have b1 : (decide (0 ≤ (n : Int)) && decide ((n : Int) < (b.length : Int))) = true := by simp; omega
  have e1 : b.length - 1 = n := by omega
  rw [e1] at htop hbl
  have gt := hb.dig.get (by decide) n
  obtain ⟨s1, s2, s3⟩ := top_split hb.dig hn
  generalize htp : b.getD n 0 = tp at *
  obtain ⟨k, k0, k1, k2, k3⟩ := lead (x := tp) (by omega) gt.2
  have hp2 := p2_pos k
  have hPn := pow_B_pos n
  -- both moved up
  have fitb : 2 ^ k * nv (4294967296 : Int) b < (4294967296 : Int) ^ b.length := by
    have q1 : 2 ^ k * nv (4294967296 : Int) b < 2 ^ k * ((4294967296 : Int) ^ n * (tp + 1)) := Int.mul_lt_mul_of_pos_left (by rw [s1]; grind) hp2
    have q2 := Int.mul_le_mul_of_nonneg_left k3 (Int.le_of_lt hPn)
    have e : 2 ^ k * ((4294967296 : Int) ^ n * (tp + 1)) = (4294967296 : Int) ^ n * (2 ^ k * (tp + 1)) := by grind
    rw [hn, Int.pow_succ]
    omega
  have hab := nv_bound (show (0 : Int) < (4294967296 : Int) by decide) ha.dig
  have hbb := nv_bound (show (0 : Int) < (4294967296 : Int) by decide) hb.dig
  have fita : 2 ^ k * nv (4294967296 : Int) a < (4294967296 : Int) ^ (a.length + 1) := by
    have q1 := Int.mul_lt_mul_of_pos_left hab.2 hp2
    have q2 := Int.mul_le_mul_of_nonneg_right (show (2 : Int) ^ k ≤ (4294967296 : Int) by have := p2_31 k0; omega) (Int.le_of_lt (pow_B_pos a.length))
    rw [Int.pow_succ]
    have e : (4294967296 : Int) ^ a.length * (4294967296 : Int) = (4294967296 : Int) * (4294967296 : Int) ^ a.length := Int.mul_comm _ _
    omega
  obtain ⟨v, v1, v2, v3, v4⟩ := up_model hN hb.dig k0 (m := b.length) (by omega) (Nat.le_refl _) fitb
  obtain ⟨u, u1, u2, u3, u4⟩ := up_model hN ha.dig k0 (m := a.length + 1) (by omega) (by omega) fita
  have w2 : wi64 ((a.length : Int) + 1) = ((a.length + 1 : Nat) : Int) := by rw [wi64_id (by omega) (by omega)]; omega
  obtain ⟨m, hm⟩ : ∃ m, a.length + 1 = b.length + m := ⟨a.length + 1 - b.length, by omega⟩
  have w3 : wi64 ((u.length : Int) - (b.length : Int)) = (m : Int) := by rw [wi64_id (by omega) (by omega)]; omega
  have w4 : wi64 ((m : Int) - 1) = (m : Int) - 1 := wi64_id (by omega) (by omega)
  have t2 : (m : Int).toNat = m := by omega
  unfold nat_long.f bits_LeadingZeros32.f
  rw [w1, b1, t1, htp, len32_model N gt.1 gt.2]
  simp only [cond_true, Option.bind_some]
  rw [k1, v4, w2, u4]
  simp only [Option.bind_some]
  rw [w3, make_oknat2 (by omega), t2, w4]
  simp only [cond_true]
  -- the top digit is full
  have hvt : 2147483648 ≤ v.getD (v.length - 1) 0 := by
    obtain ⟨x1, x2, x3⟩ := top_split v1 (n := n) (by omega)
    have e2 : v.length - 1 = n := by omega
    rw [e2]
    rcases Int.lt_or_le (v.getD n 0) 2147483648 with h | h
    · exfalso
      have q1 := Int.mul_le_mul_of_nonneg_left (show v.getD n 0 + 1 ≤ 2147483648 by omega) (Int.le_of_lt hPn)
      have q2 := Int.mul_le_mul_of_nonneg_left k2 (Int.le_of_lt hPn)
      have q3 := Int.mul_nonneg (Int.le_of_lt hp2) s2
      have e3 : 2 ^ k * nv (4294967296 : Int) b = 2 ^ k * nv (4294967296 : Int) (b.take n) + (4294967296 : Int) ^ n * (2 ^ k * tp) := by rw [s1]; grind
      have e4 : (4294967296 : Int) ^ n * (v.getD n 0 + 1) = (4294967296 : Int) ^ n * v.getD n 0 + (4294967296 : Int) ^ n := by grind
      omega
    · exact h
  have hVpos : 0 < nv (4294967296 : Int) b := by have := pow_B_pos n; omega
  have hlt : nv (4294967296 : Int) u < (4294967296 : Int) ^ m * nv (4294967296 : Int) v := by
    rw [u3, v3]
    have q1 := Int.mul_le_mul_of_nonneg_left hbl (Int.le_of_lt (pow_B_pos m))
    rw [← Int.pow_add] at q1
    have e5 : m + n = a.length := by omega
    rw [e5] at q1
    have q2 := Int.mul_lt_mul_of_pos_left (show nv (4294967296 : Int) a < (4294967296 : Int) ^ m * nv (4294967296 : Int) b by omega) hp2
    have e6 : (4294967296 : Int) ^ m * (2 ^ k * nv (4294967296 : Int) b) = 2 ^ k * ((4294967296 : Int) ^ m * nv (4294967296 : Int) b) := by grind
    omega
  obtain ⟨u', out', r1, r2, r3, r4, r5, r6, r7⟩ := long_loop hN v v1 (by omega) (by omega) hvt (k : Int) (fun y61 y62 y63 =>
          (nat_cut.f N 0 y63.length y63).bind fun r64 =>
          (nat_down.f N y62 y61).bind fun r65 =>
          some ((r64.2.2.drop r64.1).take r64.2.1, r65)) m N u (List.replicate m 0) u1 (Dig.replicate (by decide) m) (by simp; omega) (by omega) (by simp) (by omega) hlt (fun k _ => rep_get m k)
  rw [v2] at r7
  rw [r7]
  have hol : out'.length = m := by rw [r4]; simp
  obtain ⟨c1, c2⟩ := cut_all hN out' (by omega)
  rw [c1]
  simp only [Option.bind_some, c2]
  rw [down_model hN r1 (by omega) k0, cutL_enc r2]
  simp only [Option.bind_some]
  -- what the digits are
  rw [nv_replicate, Int.zero_mul, Int.zero_add, u3, v3] at r5
  rw [v3] at r6
  have hub := nv_bound (show (0 : Int) < (4294967296 : Int) by decide) r1
  have hdvd : nv (4294967296 : Int) u' = 2 ^ k * (nv (4294967296 : Int) a - nv (4294967296 : Int) out' * nv (4294967296 : Int) b) := by
    have : nv (4294967296 : Int) out' * (2 ^ k * nv (4294967296 : Int) b) = 2 ^ k * (nv (4294967296 : Int) out' * nv (4294967296 : Int) b) := by grind
    rw [Int.mul_sub]; omega
  have hdiv : nv (4294967296 : Int) u' / 2 ^ k = nv (4294967296 : Int) a - nv (4294967296 : Int) out' * nv (4294967296 : Int) b := by rw [hdvd]; exact Int.mul_ediv_cancel_left _ (by omega)
  have lo : 0 ≤ nv (4294967296 : Int) a - nv (4294967296 : Int) out' * nv (4294967296 : Int) b := by rw [← hdiv]; exact Int.ediv_nonneg hub.1 (Int.le_of_lt hp2)
  have hi : nv (4294967296 : Int) a - nv (4294967296 : Int) out' * nv (4294967296 : Int) b < nv (4294967296 : Int) b := by
    rw [hdvd] at r6
    exact Int.lt_of_mul_lt_mul_left r6 (Int.le_of_lt hp2)
  have hu := (Int.ediv_emod_unique (a := nv (4294967296 : Int) a) (r := nv (4294967296 : Int) a - nv (4294967296 : Int) out' * nv (4294967296 : Int) b) (q := nv (4294967296 : Int) out') hVpos).mpr ⟨by grind, lo, hi⟩
  rw [hdiv, hu.1, hu.2]

/-- Division, whole. -/
theorem div_model {N : Nat} (hN : 1000000001 < N) {u v : Int} (hu : Rg u) (hv : Rg v) : nat_Div.f N (enc (4294967296 : Int) u) (enc (4294967296 : Int) v) = some (if v = 0 then ([], [], 11) else (enc (4294967296 : Int) (u / v), enc (4294967296 : Int) (u % v), 0)) := by
  obtain ⟨hu0, huK⟩ := hu
  obtain ⟨hv0, hvK⟩ := hv
  obtain ⟨cu, eu⟩ := enc_spec B2 hu0
  obtain ⟨cv, ev⟩ := enc_spec B2 hv0
  have lu := enc_len128 hu0 huK
  have lv := enc_len128 hv0 hvK
  unfold nat_Div.f
  by_cases hz : v = 0
  · subst hz
    rw [enc_zero B2]
    simp
  · rw [if_neg hz]
    have hne : enc (4294967296 : Int) v ≠ [] := fun h => hz ((enc_nil B2 hv0).mp h)
    have hlen : 0 < (enc (4294967296 : Int) v).length := List.length_pos_iff.mpr hne
    have c0 : (((enc (4294967296 : Int) v).length : Int) == 0) = false := by simp; omega
    rw [c0, cmp_enc hN hu0 huK hv0]
    simp only [cond_false, Option.bind_some]
    by_cases hlt : u < v
    · have : decide (cmp u v < 0) = true := by unfold cmp; rw [if_neg (by omega), if_pos hlt]; rfl
      rw [this, Int.ediv_eq_zero_of_lt hu0 hlt, Int.emod_eq_of_lt hu0 hlt, enc_zero B2]
      rfl
    · have : decide (cmp u v < 0) = false := by
        unfold cmp
        by_cases h : u = v
        · rw [if_pos h]; rfl
        · rw [if_neg h, if_neg hlt]; rfl
      rw [this]
      simp only [cond_false]
      have hvp : 0 < v := by omega
      by_cases h1 : (enc (4294967296 : Int) v).length = 1
      · have c1 : (((enc (4294967296 : Int) v).length : Int) == 1) = true := by simp; omega
        have c2 : decide (0 < ((enc (4294967296 : Int) v).length : Int)) = true := decide_eq_true (by omega)
        obtain ⟨x, hx⟩ : ∃ x, enc (4294967296 : Int) v = [x] := by
          match hh : enc (4294967296 : Int) v, h1 with
          | [x], _ => exact ⟨x, rfl⟩
        have hxv : x = v := by rw [hx] at ev; simpa [nv] using ev
        subst hxv
        have hxb : x < (4294967296 : Int) := by have := cv.dig x (by rw [hx]; simp); exact this.2
        rw [c1, c2, roomy4 (by omega)]
        simp only [cond_true]
        have hg : (enc (4294967296 : Int) x).getD 0 0 = x := by rw [hx]; rfl
        obtain ⟨l', g1, g2, g3, g4⟩ := short_model hN cu.dig (m := (enc (4294967296 : Int) u).length) (Nat.le_refl _) (by omega) hvp hxb
        rw [List.take_of_length_le (Nat.le_refl _), eu] at g3 g4
        have g3' : nv (4294967296 : Int) l' = u / x := by rw [← g3, List.take_of_length_le (by omega)]
        rw [hg, g4]
        simp only [Option.bind_some]
        obtain ⟨k1, k2⟩ := cut_all hN l' (by omega)
        have m0 := Int.emod_nonneg u (b := x) (by omega)
        have m1 := Int.emod_lt_of_pos u (b := x) hvp
        rw [k1, wu64_id m0 (by omega), of_model hN m0 (by omega)]
        simp only [Option.bind_some, k2]
        rw [cutL_enc g1, g3']
      · have c1 : (((enc (4294967296 : Int) v).length : Int) == 1) = false := by simp; omega
        have hle : (enc (4294967296 : Int) v).length ≤ (enc (4294967296 : Int) u).length := by
          rcases Nat.lt_or_ge (enc (4294967296 : Int) u).length (enc (4294967296 : Int) v).length with h | h
          · have := can_cmp_len cu cv h
            omega
          · exact h
        rw [c1, long_model hN cu cv (by omega) hle (by omega), eu, ev]
        rfl

/-- The greatest common divisor of two numbers from 0 on. -/
def gcdI (a b : Int) : Int := (Int.gcd a b : Int)

theorem gcd_step {a b : Int} (ha : 0 ≤ a) (hb : 0 < b) : gcdI b (a % b) = gcdI a b := by
  unfold gcdI
  obtain ⟨m, rfl⟩ := Int.eq_ofNat_of_zero_le ha
  obtain ⟨n, rfl⟩ := Int.eq_ofNat_of_zero_le (Int.le_of_lt hb)
  have e : ((m : Int) % (n : Int)) = ((m % n : Nat) : Int) := by simp
  rw [e]
  show ((Nat.gcd n (m % n) : Nat) : Int) = ((Nat.gcd m n : Nat) : Int)
  rw [Nat.gcd_comm n, ← Nat.gcd_rec, Nat.gcd_comm]
theorem gcd_zero {a : Int} (ha : 0 ≤ a) : gcdI a 0 = a := by
  unfold gcdI
  rw [Int.gcd_zero_right]; omega

theorem half_step {v r : Int} (hr : 0 < r) (hv : r < v) : 2 * (v % r) < v := by
  have h1 := Int.mul_ediv_add_emod v r
  have h2 := Int.emod_lt_of_pos v hr
  have h3 : 1 ≤ v / r := (Int.le_ediv_iff_mul_le hr).mpr (by omega)
  have h4 := Int.mul_le_mul_of_nonneg_left h3 (Int.le_of_lt hr)
  omega

theorem gcd_loop {N : Nat} (hN : 1000000001 < N) {R : Type} (K0 : List Int → Option R) : ∀ (k n : Nat) (u v : Int), Rg u → Rg v → v < 2 ^ k → 2 * k + 1 ≤ n → nat_Gcd.l1 N n (enc (4294967296 : Int) u) (enc (4294967296 : Int) v) K0 = K0 (enc (4294967296 : Int) (gcdI u v)) := by
  have stop : ∀ (n : Nat) (u : Int), Rg u → nat_Gcd.l1 N (n + 1) (enc (4294967296 : Int) u) (enc (4294967296 : Int) 0) K0 = K0 (enc (4294967296 : Int) (gcdI u 0)) := by
    intro n u hu
    rw [nat_Gcd.l1, enc_zero B2, gcd_zero hu.1]
    rfl
  have one : ∀ (n : Nat) (u v : Int), Rg u → Rg v → v ≠ 0 → nat_Gcd.l1 N (n + 1) (enc (4294967296 : Int) u) (enc (4294967296 : Int) v) K0 = nat_Gcd.l1 N n (enc (4294967296 : Int) v) (enc (4294967296 : Int) (u % v)) K0 := by
    intro n u v hu hv hz
    rw [nat_Gcd.l1]
    have hne : enc (4294967296 : Int) v ≠ [] := fun h => hz ((enc_nil B2 hv.1).mp h)
    have hlen : 0 < (enc (4294967296 : Int) v).length := List.length_pos_iff.mpr hne
    have c : decide (((enc (4294967296 : Int) v).length : Int) > 0) = true := decide_eq_true (by omega)
    rw [c, div_model hN hu hv, if_neg hz]
    rfl
  have rem : ∀ (u v : Int), Rg u → Rg v → v ≠ 0 → Rg (u % v) ∧ u % v < v := by
    intro u v hu hv hz
    have hp : 0 < v := by have := hv.1; omega
    have h0 := Int.emod_nonneg u hz
    have h1 := Int.emod_lt_of_pos u hp
    exact ⟨⟨h0, by have := hv.2; omega⟩, h1⟩
  intro k
  induction k with
  | zero =>
    intro n u v hu hv hk hn
    obtain ⟨n', rfl⟩ : ∃ n', n = n' + 1 := ⟨n - 1, by omega⟩
    have hv0 := hv.1
    have : v = 0 := by simp at hk; omega
    subst this
    exact stop n' u hu
  | succ k ih =>
    intro n u v hu hv hk hn
    obtain ⟨n', rfl⟩ : ∃ n', n = n' + 1 + 1 := ⟨n - 2, by omega⟩
    have hu0 := hu.1
    have hv0 := hv.1
    by_cases hz : v = 0
    · subst hz; exact stop _ u hu
    · obtain ⟨r1, r2⟩ := rem u v hu hv hz
      have g1 := gcd_step hu0 (show 0 < v by omega)
      rw [one _ u v hu hv hz, ← g1]
      generalize u % v = r at *
      by_cases hr : r = 0
      · subst hr; exact stop _ v hv
      · have hr0 := r1.1
        obtain ⟨q1, q2⟩ := rem v r hv r1 hr
        have g2 := gcd_step hv0 (show 0 < r by omega)
        rw [one _ v r hv r1 hr, ← g2]
        have hh := half_step (show 0 < r by omega) r2
        have hp : (2 : Int) ^ (k + 1) = 2 * 2 ^ k := by rw [Int.pow_succ]; omega
        exact ih n' r (v % r) r1 q1 (by omega) (by omega)

theorem gcd_model {N : Nat} (hN : 1000000001 < N) {u v : Int} (hu : Rg u) (hv : Rg v) : nat_Gcd.f N (enc (4294967296 : Int) u) (enc (4294967296 : Int) v) = some (enc (4294967296 : Int) (gcdI u v)) := by
  unfold nat_Gcd.f
  exact gcd_loop hN _ 4096 N u v hu hv (by have := hv.2; unfold K at this; exact this) (by omega)

theorem gcdI_rg {u v : Int} (hu : Rg u) (hv : Rg v) : Rg (gcdI u v) := by
  have h0 : 0 ≤ gcdI u v := by unfold gcdI; omega
  refine ⟨h0, ?_⟩
  by_cases hz : u = 0
  · subst hz
    have : gcdI 0 v = v := by unfold gcdI; rw [Int.gcd_zero_left]; have := hv.1; omega
    rw [this]; exact hv.2
  · have := Int.le_of_dvd (by have := hu.1; omega) (Int.gcd_dvd_left u v)
    have h2 := hu.2
    unfold gcdI; omega


end Go.Proofs.Ytifnooogklfifaa.NatL
