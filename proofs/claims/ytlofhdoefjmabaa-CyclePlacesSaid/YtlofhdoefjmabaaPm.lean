-- Plain laws of the row law09: the primitive reduced forms of a discriminant, as All gathers them.
import Derived.Test.YtlofhdoefjmabaaPk
import Derived.Test.YtlofhdoefjmabaaT5
namespace Go.Proofs.Ytlofhdoefjmabaa.Pure
open Go Go.Proofs.Ytlofhdoefjmabaa.Ev
set_option linter.unusedVariables false
set_option linter.unusedSimpArgs false

/-- Euclid's steps. -/
theorem euclid_go (N : Nat) : ∀ (n m k : Nat), k < n → ∀ {R : Type} (x y z w : Int) (K : Int → Int → Int → Int → Int → Option R), cycle_prime.l6 N n (m : Int) (k : Int) x y z w K = K (Nat.gcd m k : Nat) x y z w
  | 0, m, k, h, R, x, y, z, w, K => by omega
  | n + 1, m, k, h, R, x, y, z, w, K => by
    rw [cycle_prime.l6]
    cases k with
    | zero => simp
    | succ k =>
      have h1 : decide (((k + 1 : Nat) : Int) > 0) = true := decide_eq_true (by omega)
      have h2 : (((k + 1 : Nat) : Int) == 0) = false := by simp; omega
      have h3 : Int.tmod (m : Int) ((k + 1 : Nat) : Int) = ((m % (k + 1) : Nat) : Int) := by rw [Int.tmod_eq_emod_of_nonneg (by omega)]; rfl
      rw [h1, h2, cond_true, Bool.not_false, cond_true, h3, euclid_go N n (k + 1) (m % (k + 1)) (by have := Nat.mod_lt m (show 0 < k + 1 by omega); omega)]
      rw [Nat.gcd_comm m (k + 1), Nat.gcd_rec (k + 1) m, Nat.gcd_comm]
theorem euclid2_go (N : Nat) : ∀ (n m k : Nat), k < n → ∀ {R : Type} (x y z w : Int) (K : Int → Int → Int → Int → Int → Option R), parquetlaw09_gcd.l6 N n (m : Int) (k : Int) x y z w K = K (Nat.gcd m k : Nat) x y z w
  | 0, m, k, h, R, x, y, z, w, K => by omega
  | n + 1, m, k, h, R, x, y, z, w, K => by
    rw [parquetlaw09_gcd.l6]
    cases k with
    | zero => simp
    | succ k =>
      have h1 : decide (((k + 1 : Nat) : Int) > 0) = true := decide_eq_true (by omega)
      have h2 : (((k + 1 : Nat) : Int) == 0) = false := by simp; omega
      have h3 : Int.tmod (m : Int) ((k + 1 : Nat) : Int) = ((m % (k + 1) : Nat) : Int) := by rw [Int.tmod_eq_emod_of_nonneg (by omega)]; rfl
      rw [h1, h2, cond_true, Bool.not_false, cond_true, h3, euclid2_go N n (k + 1) (m % (k + 1)) (by have := Nat.mod_lt m (show 0 < k + 1 by omega); omega)]
      rw [Nat.gcd_comm m (k + 1), Nat.gcd_rec (k + 1) m, Nat.gcd_comm]

/-- The greatest divisor in common. -/
def g3 (a b c : Int) : Nat := Nat.gcd (Nat.gcd a.natAbs b.natAbs) c.natAbs
theorem g3_prim (a b c : Int) : g3 a b c = 1 ↔ Prim a b c := by
  unfold g3 Prim
  constructor
  · intro h g h1 h2 h3
    have p : g.natAbs ∣ Nat.gcd (Nat.gcd a.natAbs b.natAbs) c.natAbs := Nat.dvd_gcd (Nat.dvd_gcd (Int.natAbs_dvd_natAbs.mpr h1) (Int.natAbs_dvd_natAbs.mpr h2)) (Int.natAbs_dvd_natAbs.mpr h3)
    rw [h] at p
    exact Int.natAbs_dvd_natAbs.mp (by simpa using p)
  · intro h
    have := h ((Nat.gcd (Nat.gcd a.natAbs b.natAbs) c.natAbs : Nat) : Int) (Int.natAbs_dvd_natAbs.mp (by simpa using Nat.dvd_trans (Nat.gcd_dvd_left _ _) (Nat.gcd_dvd_left _ _)))
      (Int.natAbs_dvd_natAbs.mp (by simpa using Nat.dvd_trans (Nat.gcd_dvd_left _ _) (Nat.gcd_dvd_right _ _))) (Int.natAbs_dvd_natAbs.mp (by simpa using Nat.gcd_dvd_right _ _))
    have h2 := Int.natAbs_dvd_natAbs.mpr this
    simpa using h2
instance (a b c : Int) : Decidable (Prim a b c) := decidable_of_iff _ (g3_prim a b c)
theorem ab_natAbs (x : Int) : ab x = (x.natAbs : Int) := by rcases ab_cases x with ⟨_, e⟩ | ⟨_, e⟩ <;> omega

theorem prime_model {N : Nat} (hN : 8589934600 < N) {a b c : Int} (a0 : -1073741824 ≤ a) (a1 : a ≤ 1073741824) (b0 : -1073741824 ≤ b) (b1 : b ≤ 1073741824) (c0 : -1073741824 ≤ c) (c1 : c ≤ 1073741824) : cycle_prime.f N a b c = some (decide (Prim a b c)) := by
  obtain ⟨n, rfl⟩ : ∃ m, N = m + 4 := ⟨N - 4, by omega⟩
  unfold cycle_prime.f
  have z : (0 : Int) = ((0 : Nat) : Int) := rfl
  have w1 : wi64 (0 + 1) = 1 := by decide
  have w2 : wi64 (1 + 1) = 2 := by decide
  have w3 : wi64 (2 + 1) = 3 := by decide
  have sa := (size_model (n + 4) (x := a) (by omega) (by omega)).1
  have sb := (size_model (n + 4) (x := b) (by omega) (by omega)).1
  have sc := (size_model (n + 4) (x := c) (by omega) (by omega)).1
  rw [ab_natAbs] at sa sb sc
  have e0 : [a, b, c].getD (0 : Int).toNat 0 = a := rfl
  have e1 : [a, b, c].getD (1 : Int).toNat 0 = b := rfl
  have e2 : [a, b, c].getD (2 : Int).toNat 0 = c := rfl
  have d0 : decide ((0 : Int) < 3) = true := by decide
  have d1 : decide ((1 : Int) < 3) = true := by decide
  have d2 : decide ((2 : Int) < 3) = true := by decide
  have d3 : decide ((3 : Int) < 3) = false := by decide
  have q0 : decide ((0 : Int) ≤ 0) = true := by decide
  have q1 : decide ((0 : Int) ≤ 1) = true := by decide
  have q2 : decide ((0 : Int) ≤ 2) = true := by decide
  rw [cycle_prime.l3, d0, q0, cond_true, Bool.and_self, cond_true, e0, sa, Option.bind_some]
  have z0 : cycle_prime.l6 (R := Bool) (n + 4) (n + 4) 0 = cycle_prime.l6 (n + 4) (n + 4) ((0 : Nat) : Int) := rfl
  rw [z0, euclid_go (n + 4) (n + 4) 0 a.natAbs (by omega)]
  rw [cycle_prime.l3, w1, d1, q1, cond_true, Bool.and_self, cond_true, e1, sb, Option.bind_some, euclid_go (n + 4) (n + 4) _ b.natAbs (by omega)]
  rw [cycle_prime.l3, w2, d2, q2, cond_true, Bool.and_self, cond_true, e2, sc, Option.bind_some, euclid_go (n + 4) (n + 4) _ c.natAbs (by omega)]
  rw [cycle_prime.l3, w3, d3, cond_false]
  congr 1
  rw [Bool.eq_iff_iff, beq_iff_eq, decide_eq_true_eq, ← g3_prim]
  unfold g3
  rw [Nat.gcd_zero_left]
  omega
theorem gcd_model {N : Nat} (hN : 8589934600 < N) {a b c : Int} (a0 : -1073741824 ≤ a) (a1 : a ≤ 1073741824) (b0 : -1073741824 ≤ b) (b1 : b ≤ 1073741824) (c0 : -1073741824 ≤ c) (c1 : c ≤ 1073741824) : parquetlaw09_gcd.f N a b c = some ((g3 a b c : Nat) : Int) := by
  obtain ⟨n, rfl⟩ : ∃ m, N = m + 4 := ⟨N - 4, by omega⟩
  unfold parquetlaw09_gcd.f
  have w1 : wi64 (0 + 1) = 1 := by decide
  have w2 : wi64 (1 + 1) = 2 := by decide
  have w3 : wi64 (2 + 1) = 3 := by decide
  have mx : ∀ x : Int, -1073741824 ≤ x → x ≤ 1073741824 → mx2 x (wi64 (0 - x)) = (x.natAbs : Int) := fun x h1 h2 => by
    rw [wi64_id (by omega) (by omega)]; unfold mx2; split <;> omega
  have e0 : [a, b, c].getD (0 : Int).toNat 0 = a := rfl
  have e1 : [a, b, c].getD (1 : Int).toNat 0 = b := rfl
  have e2 : [a, b, c].getD (2 : Int).toNat 0 = c := rfl
  have d0 : decide ((0 : Int) < 3) = true := by decide
  have d1 : decide ((1 : Int) < 3) = true := by decide
  have d2 : decide ((2 : Int) < 3) = true := by decide
  have d3 : decide ((3 : Int) < 3) = false := by decide
  have q0 : decide ((0 : Int) ≤ 0) = true := by decide
  have q1 : decide ((0 : Int) ≤ 1) = true := by decide
  have q2 : decide ((0 : Int) ≤ 2) = true := by decide
  rw [parquetlaw09_gcd.l3, d0, q0, cond_true, Bool.and_self, cond_true, e0, mx a a0 a1]
  have z0 : parquetlaw09_gcd.l6 (R := Int) (n + 4) (n + 4) 0 = parquetlaw09_gcd.l6 (n + 4) (n + 4) ((0 : Nat) : Int) := rfl
  rw [z0, euclid2_go (n + 4) (n + 4) 0 a.natAbs (by omega)]
  rw [parquetlaw09_gcd.l3, w1, d1, q1, cond_true, Bool.and_self, cond_true, e1, mx b b0 b1, euclid2_go (n + 4) (n + 4) _ b.natAbs (by omega)]
  rw [parquetlaw09_gcd.l3, w2, d2, q2, cond_true, Bool.and_self, cond_true, e2, mx c c0 c1, euclid2_go (n + 4) (n + 4) _ c.natAbs (by omega)]
  rw [parquetlaw09_gcd.l3, w3, d3, cond_false]
  unfold g3
  rw [Nat.gcd_zero_left]

/-- A primitive reduced form. -/
def PF (d s : Int) (x : T3) : Prop := OKf d s x ∧ Prim x.1 x.2.1 x.2.2
theorem ab_neg (x : Int) : ab (-x) = ab x := by rcases ab_cases x with ⟨_, e⟩ | ⟨_, e⟩ <;> rcases ab_cases (-x) with ⟨_, e'⟩ | ⟨_, e'⟩ <;> omega
theorem prim_neg {a b c : Int} : Prim (-a) b (-c) ↔ Prim a b c := by
  unfold Prim
  constructor
  · intro h g h1 h2 h3; exact h g (Int.dvd_neg.mpr h1) h2 (Int.dvd_neg.mpr h3)
  · intro h g h1 h2 h3; exact h g (Int.dvd_neg.mp h1) h2 (Int.dvd_neg.mp h3)

theorem all_in {N : Nat} (hN : 8589934600 < N) {d s b nn : Int} (hd : Cross d s) (hs : d ≤ 65536) (hs2 : s ≤ 256) (hb1 : 1 ≤ b) (hb2 : b ≤ s) (hnn : 4 * nn = d - b * b) : ∀ (q : Nat) (a : Int) (X : List T3), 1 ≤ a → a ≤ s + 1 → s + 1 - a < q → (X.length : Int) + 2 * (s + 1 - a) ≤ 1000000 →
    ∃ Y : List T3, (∀ y ∈ Y, PF d s y) ∧ (∀ y, PF d s y → y.2.1 = b → a ≤ ab y.1 → y ∈ Y) ∧ (Y.length : Int) ≤ 2 * (s + 1 - a) ∧ ∀ {R : Type} (K : Int → Int → Int → List Int → Option R), cycle_All.l10 N q d s b nn a (flat3 X) K = K d s b (flat3 (X ++ Y)) := by
  have hd1 := hd.d1
  have lo := hd.root.lo
  have hbb := sq_mono (show 0 ≤ b by omega) hb2
  have hnd : b * b ≠ d := hd.nosq b
  have hn0 : 1 ≤ nn := by omega
  have hn1 : nn ≤ 16384 := by have := sq_nonneg b; omega
  intro q
  induction q with
  | zero => intro a X h1 h2 h3 h4; omega
  | succ q ih =>
    intro a X h1 h2 h3 h4
    by_cases hle : a ≤ s
    · have c1 : decide (a ≤ s) = true := decide_eq_true hle
      have c2 : (a == 0) = false := by simp; omega
      have c3 : Int.tmod nn a = nn % a := Int.tmod_eq_emod_of_nonneg (by omega)
      have w1 : wi64 (a + 1) = a + 1 := wi64_id (by omega) (by omega)
      by_cases hdv : nn % a = 0
      · obtain ⟨m, hm⟩ := Int.dvd_of_emod_eq_zero hdv
        subst hm
        have hm1 : 1 ≤ m := by
          rcases Int.lt_or_le 0 m with h | h
          · omega
          · have := Int.mul_nonneg (show 0 ≤ a by omega) (show 0 ≤ -m by omega)
            have e : a * -m = -(a * m) := by grind
            omega
        have hm2 : m ≤ a * m := by
          have := Int.mul_le_mul_of_nonneg_right h1 (show 0 ≤ m by omega)
          omega
        have w2 : wi64 (0 - a * m) = a * (-m) := by rw [wi64_id (by omega) (by omega)]; grind
        have w3 : wi64 (Int.tdiv (a * (-m)) a) = -m := by rw [Int.mul_tdiv_cancel_left _ (by omega), wi64_id (by omega) (by omega)]
        have w4 : wi64 (Int.tdiv (a * m) a) = m := by rw [Int.mul_tdiv_cancel_left _ (by omega), wi64_id (by omega) (by omega)]
        have w5 : wi64 (0 - a) = -a := by rw [wi64_id (by omega) (by omega)]; omega
        have ge1 : 4 * a * -m = -(4 * (a * m)) := by grind
        have ge2 : 4 * -a * m = -(4 * (a * m)) := by grind
        have g1 : Good d a b (-m) := ⟨by omega, by omega, by omega, by omega, by omega, by omega, by omega⟩
        have g2 : Good d (-a) b m := ⟨by omega, by omega, by omega, by omega, by omega, by omega, by omega⟩
        have r1 := (reduced_model hN hd g1).1
        have r2 := (reduced_model hN hd g2).1
        have hrr : Red s (-a) b ↔ Red s a b := by unfold Red; rw [ab_neg]
        have p1 := prime_model hN g1.a0 g1.a1 g1.b0 g1.b1 g1.c0 g1.c1
        have p2 := prime_model hN g2.a0 g2.a1 g2.b0 g2.b1 g2.c0 g2.c1
        have hpp : Prim (-a) b m ↔ Prim a b (-m) := by have := prim_neg (a := a) (b := b) (c := -m); rwa [Int.neg_neg] at this
        have inv : ∀ y : T3, PF d s y → y.2.1 = b → ab y.1 = a → (Red s a b ∧ Prim a b (-m)) ∧ (y = (a, b, -m) ∨ y = (-a, b, m)) := by
          intro y hy hyb hya
          obtain ⟨y1, y2, y3⟩ := y
          dsimp only at hyb hya
          subst hyb
          have hdc := hy.1.1.disc
          dsimp only at hdc
          rcases ab_cases y1 with ⟨_, e⟩ | ⟨_, e⟩
          · have e1 : y1 = a := by omega
            subst e1
            have e2 : y1 * (y3 + m) = 0 := by grind
            have e3 : y3 = -m := by
              rcases Int.mul_eq_zero.mp e2 with h | h <;> omega
            subst e3
            exact ⟨⟨hy.1.2, hy.2⟩, .inl rfl⟩
          · have e1 : y1 = -a := by omega
            subst e1
            have e2 : a * (y3 - m) = 0 := by grind
            have e3 : y3 = m := by
              rcases Int.mul_eq_zero.mp e2 with h | h <;> omega
            subst e3
            exact ⟨⟨hrr.mp hy.1.2, hpp.mp hy.2⟩, .inr rfl⟩
        by_cases hR : Red s a b ∧ Prim a b (-m)
        · obtain ⟨Y, y1, y2, y3, y4⟩ := ih (a + 1) (X ++ [(a, b, -m), (-a, b, m)]) (by omega) (by omega) (by omega) (by simp; omega)
          refine ⟨[(a, b, -m), (-a, b, m)] ++ Y, ?_, ?_, by simp; omega, fun K => ?_⟩
          · intro y hy
            rcases List.mem_append.mp hy with h | h
            · rcases List.mem_cons.mp h with h | h
              · subst h; exact ⟨⟨g1, hR.1⟩, hR.2⟩
              · have := List.mem_singleton.mp h; subst this; exact ⟨⟨g2, hrr.mpr hR.1⟩, hpp.mpr hR.2⟩
            · exact y1 y h
          · intro y hy hyb hya
            by_cases ha : ab y.1 = a
            · rcases (inv y hy hyb ha).2 with h | h <;> simp [h]
            · exact List.mem_append.mpr (.inr (y2 y hy hyb (by omega)))
          · have l0 := flat3_length X
            have f1 : roomy (((flat3 X).length + 3) / 3) 24 = true := roomy_ok (by omega)
            have f2 : roomy (((flat3 X ++ [a, b, -m]).length + 3) / 3) 24 = true := roomy_ok (by simp; omega)
            have k1 : decide (Red s a b) = true := decide_eq_true hR.1
            have k2 : decide (Red s (-a) b) = true := decide_eq_true (hrr.mpr hR.1)
            have k3 : decide (Prim a b (-m)) = true := decide_eq_true hR.2
            have k4 : decide (Prim (-a) b m) = true := decide_eq_true (hpp.mpr hR.2)
            rw [cycle_All.l10]
            simp only [c1, c2, c3, hdv, Bool.not_false, cond_true, bne_self_eq_false, cond_false, w1, w2, w3, w4, w5, r1, r2, p1, p2, Option.bind_some, k1, k2, k3, k4, f1, f2]
            have y4 := y4 K
            rw [flat3_append] at y4
            rw [List.append_assoc (flat3 X)]
            rw [← List.append_assoc X]
            exact y4
        · obtain ⟨Y, y1, y2, y3, y4⟩ := ih (a + 1) X (by omega) (by omega) (by omega) (by omega)
          refine ⟨Y, y1, fun y hy hyb hya => ?_, by omega, fun K => ?_⟩
          · by_cases ha : ab y.1 = a
            · exact absurd (inv y hy hyb ha).1 hR
            · exact y2 y hy hyb (by omega)
          · rw [cycle_All.l10]
            by_cases hr : Red s a b
            · have hp : ¬ Prim a b (-m) := fun h => hR ⟨hr, h⟩
              have k1 : decide (Red s a b) = true := decide_eq_true hr
              have k2 : decide (Red s (-a) b) = true := decide_eq_true (hrr.mpr hr)
              have k3 : decide (Prim a b (-m)) = false := decide_eq_false hp
              have k4 : decide (Prim (-a) b m) = false := decide_eq_false (fun h => hp (hpp.mp h))
              simp only [c1, c2, c3, hdv, Bool.not_false, cond_true, bne_self_eq_false, cond_false, w1, w2, w3, w4, w5, r1, r2, p1, p2, Option.bind_some, k1, k2, k3, k4]
              exact y4 K
            · have k1 : decide (Red s a b) = false := decide_eq_false hr
              have k2 : decide (Red s (-a) b) = false := decide_eq_false (fun h => hr (hrr.mp h))
              simp only [c1, c2, c3, hdv, Bool.not_false, cond_true, bne_self_eq_false, cond_false, w1, w2, w3, w4, w5, r1, r2, Option.bind_some, k1, k2]
              exact y4 K
      · obtain ⟨Y, y1, y2, y3, y4⟩ := ih (a + 1) X (by omega) (by omega) (by omega) (by omega)
        refine ⟨Y, y1, fun y hy hyb hya => ?_, by omega, fun K => ?_⟩
        · by_cases ha : ab y.1 = a
          · exfalso
            have hdc := hy.1.1.disc
            rw [hyb] at hdc
            apply hdv
            apply Int.emod_eq_zero_of_dvd
            rcases ab_cases y.1 with ⟨_, e⟩ | ⟨_, e⟩
            · exact ⟨-y.2.2, by rw [← ha, e]; grind⟩
            · exact ⟨y.2.2, by rw [← ha, e]; grind⟩
          · exact y2 y hy hyb (by omega)
        · have c4 : (nn % a != 0) = true := by simpa using hdv
          rw [cycle_All.l10]
          simp only [c1, c2, c3, c4, Bool.not_false, cond_true, w1]
          exact y4 K
    · refine ⟨[], (fun y hy => (List.not_mem_nil hy).elim), fun y hy hyb hya => ?_, (by simp; omega), fun K => ?_⟩
      · exfalso
        have hr := hy.1.2
        rw [hyb] at hr
        obtain ⟨_, _, _, r4⟩ := hr
        omega
      · rw [cycle_All.l10, decide_eq_false hle, cond_false, List.append_nil]

end Go.Proofs.Ytlofhdoefjmabaa.Pure
