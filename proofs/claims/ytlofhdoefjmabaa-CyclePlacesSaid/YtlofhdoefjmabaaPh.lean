-- How many numbers below 2 a have one and the same square modulo 4 a, for every a up to 128: counted once and for all. (No program in sight.)
import Derived.KernelRfl
namespace Go.Proofs.Ytlofhdoefjmabaa.Cnt
set_option linter.unusedVariables false
set_option linter.unusedSimpArgs false

/-- How many b below n have the square r modulo 4 a. -/
def cn (a r : Nat) : Nat → Nat
  | 0 => 0
  | b + 1 => cn a r b + if b * b % (4 * a) = r then 1 else 0
/-- The counts for all r at once: digits of base 2^16. -/
def hist (a : Nat) : Nat → Nat
  | 0 => 0
  | b + 1 => hist a b + 65536 ^ (b * b % (4 * a))
def low (a m : Nat) : Nat → Nat
  | 0 => 0
  | b + 1 => low a m b + if b * b % (4 * a) < m then 65536 ^ (b * b % (4 * a)) else 0

theorem cn_le (a r : Nat) : ∀ n, cn a r n ≤ n
  | 0 => Nat.le_refl _
  | n + 1 => by have := cn_le a r n; simp only [cn]; split <;> omega
theorem low_succ (a m : Nat) : ∀ n, low a (m + 1) n = low a m n + cn a m n * 65536 ^ m
  | 0 => by simp [low, cn]
  | n + 1 => by
    simp only [low, cn]
    rw [low_succ a m n, Nat.add_mul]
    by_cases h : n * n % (4 * a) = m
    · rw [if_pos (by omega), if_neg (by omega), if_pos h, h]; omega
    · rw [if_neg h]
      by_cases h2 : n * n % (4 * a) < m
      · rw [if_pos (by omega), if_pos h2]; omega
      · rw [if_neg (by omega), if_neg h2]; omega
theorem low_zero (a : Nat) : ∀ n, low a 0 n = 0
  | 0 => rfl
  | n + 1 => by simp [low, low_zero a n]
theorem low_lt (a n : Nat) (hn : n < 65536) : ∀ m, low a m n < 65536 ^ m
  | 0 => by rw [low_zero]; exact Nat.one_pos
  | m + 1 => by
    rw [low_succ, Nat.pow_succ]
    have h1 := low_lt a n hn m
    have h2 := cn_le a m n
    have h3 : cn a m n * 65536 ^ m ≤ 65535 * 65536 ^ m := Nat.mul_le_mul_right _ (by omega)
    omega
theorem hist_low (a m : Nat) : ∀ n, ∃ q, hist a n = low a m n + q * 65536 ^ m
  | 0 => ⟨0, by simp [hist, low]⟩
  | n + 1 => by
    obtain ⟨q, hq⟩ := hist_low a m n
    simp only [hist, low]
    by_cases h : n * n % (4 * a) < m
    · exact ⟨q, by rw [if_pos h, hq]; omega⟩
    · refine ⟨q + 65536 ^ (n * n % (4 * a) - m), ?_⟩
      rw [if_neg h, hq, Nat.add_mul, ← Nat.pow_add, Nat.sub_add_cancel (by omega)]
      omega
theorem cn_hist (a m n : Nat) (hn : n < 65536) : cn a m n = hist a n / 65536 ^ m % 65536 := by
  obtain ⟨q, hq⟩ := hist_low a (m + 1) n
  have hp : 0 < 65536 ^ m := Nat.pow_pos (by decide)
  have h1 : hist a n = low a m n + 65536 ^ m * (cn a m n + 65536 * q) := by
    rw [hq, low_succ, Nat.pow_succ]
    rw [Nat.mul_add, Nat.mul_comm (65536 ^ m) (cn a m n), Nat.add_assoc]
    congr 2
    rw [Nat.mul_comm q, Nat.mul_assoc]
  rw [h1, Nat.add_mul_div_left _ _ hp, Nat.div_eq_of_lt (low_lt a n hn m), Nat.zero_add, Nat.add_mul_mod_self_left, Nat.mod_eq_of_lt]
  have := cn_le a m n
  omega

def chk (R : Nat) : Nat → Nat → Bool
  | 0, _ => true
  | _ + 1, 0 => true
  | m + 1, h + 1 => Nat.ble ((h + 1) % 65536) R && chk R m ((h + 1) / 65536)
theorem chk_spec (R : Nat) : ∀ (m H : Nat), chk R m H = true → ∀ i, i < m → H / 65536 ^ i % 65536 ≤ R
  | 0, _, _, i, hi => absurd hi (Nat.not_lt_zero i)
  | m + 1, 0, _, i, _ => by simp
  | m + 1, h + 1, hc, i, hi => by
    simp only [chk, Bool.and_eq_true] at hc
    cases i with
    | zero => simpa using Nat.le_of_ble_eq_true hc.1
    | succ i =>
      have := chk_spec R m _ hc.2 i (by omega)
      rwa [Nat.div_div_eq_div_mul, ← Nat.pow_succ'] at this
def chkAll : List (Nat × Nat) → Bool
  | [] => true
  | (a, r) :: l => chk r (4 * a) (hist a (2 * a)) && chkAll l
theorem chkAll_spec : ∀ (l : List (Nat × Nat)), chkAll l = true → ∀ p ∈ l, ∀ i, i < 4 * p.1 → hist p.1 (2 * p.1) / 65536 ^ i % 65536 ≤ p.2
  | [], _, p, hp => by cases hp
  | (a, r) :: l, h, p, hp => by
    simp only [chkAll, Bool.and_eq_true] at h
    rcases List.mem_cons.mp hp with e | hp
    · subst e; intro i hi; exact chk_spec r _ _ h.1 i hi
    · exact chkAll_spec l h.2 p hp

theorem chkAll_app : ∀ {l m : List (Nat × Nat)}, chkAll l = true → chkAll m = true → chkAll (l ++ m) = true
  | [], _, _, h => h
  | (a, r) :: l, m, h, h2 => by
    simp only [chkAll, Bool.and_eq_true, List.cons_append] at h ⊢
    exact ⟨h.1, chkAll_app h.2 h2⟩
def tb0 : List (Nat × Nat) := [(1, 1), (2, 2), (3, 2), (4, 2)]
theorem tk0 : chkAll tb0 = true := by decide +kernel
def tb1 : List (Nat × Nat) := [(5, 2), (6, 4), (7, 2), (8, 4)]
theorem tk1 : chkAll tb1 = true := by decide +kernel
def tb2 : List (Nat × Nat) := [(9, 3), (10, 4), (11, 2), (12, 4)]
theorem tk2 : chkAll tb2 = true := by decide +kernel
def tb3 : List (Nat × Nat) := [(13, 2), (14, 4), (15, 4), (16, 4)]
theorem tk3 : chkAll tb3 = true := by decide +kernel
def tb4 : List (Nat × Nat) := [(17, 2), (18, 6), (19, 2), (20, 4)]
theorem tk4 : chkAll tb4 = true := by decide +kernel
def tb5 : List (Nat × Nat) := [(21, 4), (22, 4), (23, 2), (24, 8)]
theorem tk5 : chkAll tb5 = true := by decide +kernel
def tb6 : List (Nat × Nat) := [(25, 5), (26, 4), (27, 6), (28, 4)]
theorem tk6 : chkAll tb6 = true := by decide +kernel
def tb7 : List (Nat × Nat) := [(29, 2), (30, 8), (31, 2), (32, 8)]
theorem tk7 : chkAll tb7 = true := by decide +kernel
def tb8 : List (Nat × Nat) := [(33, 4), (34, 4), (35, 4), (36, 6)]
theorem tk8 : chkAll tb8 = true := by decide +kernel
def tb9 : List (Nat × Nat) := [(37, 2), (38, 4), (39, 4), (40, 8)]
theorem tk9 : chkAll tb9 = true := by decide +kernel
def tb10 : List (Nat × Nat) := [(41, 2), (42, 8), (43, 2), (44, 4)]
theorem tk10 : chkAll tb10 = true := by decide +kernel
def tb11 : List (Nat × Nat) := [(45, 6), (46, 4), (47, 2), (48, 8)]
theorem tk11 : chkAll tb11 = true := by decide +kernel
def tb12 : List (Nat × Nat) := [(49, 7), (50, 10), (51, 4), (52, 4)]
theorem tk12 : chkAll tb12 = true := by decide +kernel
def tb13 : List (Nat × Nat) := [(53, 2), (54, 12), (55, 4), (56, 8)]
theorem tk13 : chkAll tb13 = true := by decide +kernel
def tb14 : List (Nat × Nat) := [(57, 4), (58, 4), (59, 2), (60, 8)]
theorem tk14 : chkAll tb14 = true := by decide +kernel
def tb15 : List (Nat × Nat) := [(61, 2), (62, 4), (63, 6), (64, 8)]
theorem tk15 : chkAll tb15 = true := by decide +kernel
def tb16 : List (Nat × Nat) := [(65, 4), (66, 8), (67, 2), (68, 4)]
theorem tk16 : chkAll tb16 = true := by decide +kernel
def tb17 : List (Nat × Nat) := [(69, 4), (70, 8), (71, 2), (72, 12)]
theorem tk17 : chkAll tb17 = true := by decide +kernel
def tb18 : List (Nat × Nat) := [(73, 2), (74, 4), (75, 10), (76, 4)]
theorem tk18 : chkAll tb18 = true := by decide +kernel
def tb19 : List (Nat × Nat) := [(77, 4), (78, 8), (79, 2), (80, 8)]
theorem tk19 : chkAll tb19 = true := by decide +kernel
def tb20 : List (Nat × Nat) := [(81, 9), (82, 4), (83, 2), (84, 8)]
theorem tk20 : chkAll tb20 = true := by decide +kernel
def tb21 : List (Nat × Nat) := [(85, 4), (86, 4), (87, 4), (88, 8)]
theorem tk21 : chkAll tb21 = true := by decide +kernel
def tb22 : List (Nat × Nat) := [(89, 2), (90, 12), (91, 4), (92, 4)]
theorem tk22 : chkAll tb22 = true := by decide +kernel
def tb23 : List (Nat × Nat) := [(93, 4), (94, 4), (95, 4), (96, 16)]
theorem tk23 : chkAll tb23 = true := by decide +kernel
def tb24 : List (Nat × Nat) := [(97, 2), (98, 14), (99, 6), (100, 10)]
theorem tk24 : chkAll tb24 = true := by decide +kernel
def tb25 : List (Nat × Nat) := [(101, 2), (102, 8), (103, 2), (104, 8)]
theorem tk25 : chkAll tb25 = true := by decide +kernel
def tb26 : List (Nat × Nat) := [(105, 8), (106, 4), (107, 2), (108, 12)]
theorem tk26 : chkAll tb26 = true := by decide +kernel
def tb27 : List (Nat × Nat) := [(109, 2), (110, 8), (111, 4), (112, 8)]
theorem tk27 : chkAll tb27 = true := by decide +kernel
def tb28 : List (Nat × Nat) := [(113, 2), (114, 8), (115, 4), (116, 4)]
theorem tk28 : chkAll tb28 = true := by decide +kernel
def tb29 : List (Nat × Nat) := [(117, 6), (118, 4), (119, 4), (120, 16)]
theorem tk29 : chkAll tb29 = true := by decide +kernel
def tb30 : List (Nat × Nat) := [(121, 11), (122, 4), (123, 4), (124, 4)]
theorem tk30 : chkAll tb30 = true := by decide +kernel
def tb31 : List (Nat × Nat) := [(125, 10), (126, 12), (127, 2), (128, 16)]
theorem tk31 : chkAll tb31 = true := by decide +kernel
def tab : List (Nat × Nat) := tb0 ++ (tb1 ++ (tb2 ++ (tb3 ++ (tb4 ++ (tb5 ++ (tb6 ++ (tb7 ++ (tb8 ++ (tb9 ++ (tb10 ++ (tb11 ++ (tb12 ++ (tb13 ++ (tb14 ++ (tb15 ++ (tb16 ++ (tb17 ++ (tb18 ++ (tb19 ++ (tb20 ++ (tb21 ++ (tb22 ++ (tb23 ++ (tb24 ++ (tb25 ++ (tb26 ++ (tb27 ++ (tb28 ++ (tb29 ++ (tb30 ++ (tb31)))))))))))))))))))))))))))))))
theorem tab_ok : chkAll tab = true := chkAll_app tk0 (chkAll_app tk1 (chkAll_app tk2 (chkAll_app tk3 (chkAll_app tk4 (chkAll_app tk5 (chkAll_app tk6 (chkAll_app tk7 (chkAll_app tk8 (chkAll_app tk9 (chkAll_app tk10 (chkAll_app tk11 (chkAll_app tk12 (chkAll_app tk13 (chkAll_app tk14 (chkAll_app tk15 (chkAll_app tk16 (chkAll_app tk17 (chkAll_app tk18 (chkAll_app tk19 (chkAll_app tk20 (chkAll_app tk21 (chkAll_app tk22 (chkAll_app tk23 (chkAll_app tk24 (chkAll_app tk25 (chkAll_app tk26 (chkAll_app tk27 (chkAll_app tk28 (chkAll_app tk29 (chkAll_app tk30 tk31))))))))))))))))))))))))))))))
/-- The table bounds the counts. -/
theorem cn_tab {p : Nat × Nat} (hp : p ∈ tab) (h2 : p.1 ≤ 128) {r : Nat} (hr : r < 4 * p.1) : cn p.1 r (2 * p.1) ≤ p.2 := by
  rw [cn_hist p.1 r (2 * p.1) (by omega)]
  exact chkAll_spec tab tab_ok p hp r hr
theorem tab_fst : tab.map (·.1) = List.range' 1 128 := by decide +kernel
theorem tab_sum : (tab.map (·.2)).sum = 668 := by decide +kernel

end Go.Proofs.Ytlofhdoefjmabaa.Cnt
