-- Series as lists of weights and exponents, told by one number (no program in sight).
import Derived.KernelRfl
namespace Go.Proofs.Ytifnooogklfifaa.Ser
set_option linter.unusedVariables false
set_option linter.unusedSimpArgs false

abbrev WE := Nat × Nat
def val (B : Nat) : List WE → Nat
  | [] => 0
  | p :: r => p.1 * B ^ p.2 + val B r
def co (n : Nat) : List WE → Nat
  | [] => 0
  | p :: r => (if p.2 = n then p.1 else 0) + co n r
theorem val_append (B : Nat) : ∀ a b : List WE, val B (a ++ b) = val B a + val B b
  | [], b => by simp [val]
  | x :: r, b => by simp only [List.cons_append, val, val_append B r b]; omega
theorem co_append (n : Nat) : ∀ a b : List WE, co n (a ++ b) = co n a + co n b
  | [], b => by simp [co]
  | x :: r, b => by simp only [List.cons_append, co, co_append n r b]; omega
def tl : List WE → List WE
  | [] => []
  | (_, 0) :: r => tl r
  | (w, e + 1) :: r => (w, e) :: tl r
theorem val_tl (B : Nat) : ∀ l : List WE, val B l = co 0 l + B * val B (tl l)
  | [] => by simp [val, co, tl]
  | (w, 0) :: r => by simp only [val, co, tl, val_tl B r]; simp; omega
  | (w, e + 1) :: r => by
    simp only [val, co, tl, val_tl B r, Nat.pow_succ]
    simp only [Nat.add_eq_zero_iff, Nat.one_ne_zero, and_false, if_false, Nat.zero_add, Nat.mul_add]
    have : w * (B ^ e * B) = B * (w * B ^ e) := by grind
    omega
theorem co_tl (n : Nat) : ∀ l : List WE, co n (tl l) = co (n + 1) l
  | [] => rfl
  | (w, 0) :: r => by simp [co, tl, co_tl n r]
  | (w, e + 1) :: r => by simp [co, tl, co_tl n r]

theorem mod_step {B M c v : Nat} (hc : c < B) : (c + B * v) % (B * M) = c + B * (v % M) := by
  rw [Nat.mod_mul]
  rw [Nat.add_mul_mod_self_left, Nat.mod_eq_of_lt hc, Nat.add_mul_div_left _ _ (by omega), Nat.div_eq_of_lt hc, Nat.zero_add]

/-- One series of a number. -/
theorem one {B : Nat} : ∀ (N : Nat) (l k : List WE), (∀ n, n ≤ N → co n l < B ∧ co n k < B) → val B l % B ^ (N + 1) = val B k % B ^ (N + 1) → ∀ n, n ≤ N → co n l = co n k
  | 0, l, k, hb, h, n, hn => by
    obtain rfl : n = 0 := by omega
    obtain ⟨h1, h2⟩ := hb 0 (Nat.le_refl _)
    rw [val_tl B l, val_tl B k, Nat.pow_one, Nat.add_mul_mod_self_left, Nat.add_mul_mod_self_left, Nat.mod_eq_of_lt h1, Nat.mod_eq_of_lt h2] at h
    exact h
  | N + 1, l, k, hb, h, n, hn => by
    obtain ⟨h1, h2⟩ := hb 0 (Nat.zero_le _)
    rw [val_tl B l, val_tl B k, Nat.pow_succ, Nat.mul_comm (B ^ (N + 1)) B, mod_step h1, mod_step h2] at h
    have e1 : co 0 l = co 0 k := by
      have := congrArg (· % B) h
      simpa [Nat.add_mul_mod_self_left, Nat.mod_eq_of_lt h1, Nat.mod_eq_of_lt h2] using this
    cases n with
    | zero => exact e1
    | succ n =>
      rw [e1] at h
      have e2 : val B (tl l) % B ^ (N + 1) = val B (tl k) % B ^ (N + 1) := Nat.eq_of_mul_eq_mul_left (by omega) (Nat.add_left_cancel h)
      have := one N (tl l) (tl k) (fun m hm => by rw [co_tl, co_tl]; exact hb (m + 1) (by omega)) e2 n (by omega)
      rwa [co_tl, co_tl] at this

def mul (l : List WE) : List WE → List WE
  | [] => []
  | q :: r => l.map (fun p => (p.1 * q.1, p.2 + q.2)) ++ mul l r
theorem val_scale (B : Nat) (q : WE) : ∀ l : List WE, val B (l.map fun p => (p.1 * q.1, p.2 + q.2)) = val B l * (q.1 * B ^ q.2)
  | [] => by simp [val]
  | p :: r => by
    simp only [List.map_cons, val, val_scale B q r, Nat.add_mul, Nat.pow_add]
    congr 1
    grind
theorem val_mul (B : Nat) (l : List WE) : ∀ k : List WE, val B (mul l k) = val B l * val B k
  | [] => by simp [val, mul]
  | q :: r => by simp only [mul, val, val_append, val_scale, val_mul B l r, Nat.mul_add]
theorem co_scale (n : Nat) (q : WE) : ∀ l : List WE, co n (l.map fun p => (p.1 * q.1, p.2 + q.2)) = if q.2 ≤ n then q.1 * co (n - q.2) l else 0
  | [] => by simp [co]
  | p :: r => by
    simp only [List.map_cons, co, co_scale n q r]
    by_cases h : q.2 ≤ n
    · rw [if_pos h, if_pos h, Nat.mul_add]
      congr 1
      by_cases h2 : p.2 + q.2 = n
      · rw [if_pos h2, if_pos (by omega), Nat.mul_comm]
      · rw [if_neg h2, if_neg (by omega), Nat.mul_zero]
    · rw [if_neg h, if_neg h, if_neg (by omega)]
theorem co_mul (n : Nat) (l : List WE) (q : WE) (r : List WE) : co n (mul l (q :: r)) = (if q.2 ≤ n then q.1 * co (n - q.2) l else 0) + co n (mul l r) := by
  simp only [mul, co_append, co_scale]
theorem mul_append (l : List WE) : ∀ a b : List WE, mul l (a ++ b) = mul l a ++ mul l b
  | [], b => rfl
  | q :: r, b => by simp only [List.cons_append, mul, mul_append l r b, List.append_assoc]

def rows {α : Type} (f : Nat → List α) : Nat → List α
  | 0 => []
  | n + 1 => rows f n ++ f (n + 1)
def sm (g : Nat → Nat) : Nat → Nat
  | 0 => 0
  | n + 1 => sm g n + g (n + 1)
theorem val_rows (B : Nat) (f : Nat → List WE) : ∀ n, val B (rows f n) = sm (fun i => val B (f i)) n
  | 0 => rfl
  | n + 1 => by simp only [rows, sm, val_append, val_rows B f n]
theorem co_rows (k : Nat) (f : Nat → List WE) : ∀ n, co k (rows f n) = sm (fun i => co k (f i)) n
  | 0 => rfl
  | n + 1 => by simp only [rows, sm, co_append, co_rows k f n]
theorem map_rows {α β : Type} (g : α → β) (f : Nat → List α) : ∀ n, (rows f n).map g = rows (fun i => (f i).map g) n
  | 0 => rfl
  | n + 1 => by simp only [rows, List.map_append, map_rows g f n]
theorem mul_rows (l : List WE) (f : Nat → List WE) : ∀ n, mul l (rows f n) = rows (fun i => mul l (f i)) n
  | 0 => rfl
  | n + 1 => by simp only [rows, mul_append, mul_rows l f n]
theorem mem_rows {α : Type} {f : Nat → List α} {x : α} : ∀ {n : Nat}, x ∈ rows f n ↔ ∃ i, 1 ≤ i ∧ i ≤ n ∧ x ∈ f i
  | 0 => by simp only [rows, List.not_mem_nil, false_iff]; rintro ⟨i, h1, h2, _⟩; omega
  | n + 1 => by
    simp only [rows, List.mem_append, mem_rows (n := n)]
    constructor
    · rintro (⟨i, h1, h2, h3⟩ | h)
      · exact ⟨i, h1, by omega, h3⟩
      · exact ⟨n + 1, by omega, by omega, h⟩
    · rintro ⟨i, h1, h2, h3⟩
      by_cases h : i = n + 1
      · subst h; exact .inr h3
      · exact .inl ⟨i, h1, by omega, h3⟩
theorem nodup_rows {α : Type} {f : Nat → List α} {key : α → Int} (hk : ∀ i, ∀ x ∈ f i, key x = i) (hf : ∀ i, 1 ≤ i → (f i).Nodup) : ∀ n, (rows f n).Nodup
  | 0 => .nil
  | n + 1 => by
    refine List.nodup_append.2 ⟨nodup_rows hk hf n, hf (n + 1) (by omega), fun x hx y hy => ?_⟩
    rintro rfl
    obtain ⟨i, h1, h2, h3⟩ := mem_rows.1 hx
    have a := hk i x h3
    have b := hk (n + 1) x hy
    omega
theorem sm_congr {f g : Nat → Nat} : ∀ (n : Nat), (∀ i, 1 ≤ i → i ≤ n → f i = g i) → sm f n = sm g n
  | 0, _ => rfl
  | n + 1, h => by simp only [sm]; rw [sm_congr n (fun i h1 h2 => h i h1 (by omega)), h (n + 1) (by omega) (by omega)]
theorem sm_le {f : Nat → Nat} {K : Nat} : ∀ (n : Nat), (∀ i, 1 ≤ i → i ≤ n → f i ≤ K) → sm f n ≤ n * K
  | 0, _ => by simp [sm]
  | n + 1, h => by
    have h1 := sm_le n (fun i h1 h2 => h i h1 (by omega))
    have h2 := h (n + 1) (by omega) (by omega)
    have e : (n + 1) * K = n * K + K := by grind
    simp only [sm]; omega

/- Geometric rows -/
def geo (w e s : Nat) : Nat → List WE
  | 0 => [(w, e)]
  | m + 1 => geo w e s m ++ [(w, e + s * (m + 1))]
def ag (w d e s : Nat) : Nat → List WE
  | 0 => [(w, e)]
  | m + 1 => ag w d e s m ++ [(w + d * (m + 1), e + s * (m + 1))]
/-- 1 + X + .. + X^m. -/
def gS (X : Nat) : Nat → Nat
  | 0 => 1
  | m + 1 => gS X m + X ^ (m + 1)
def gT (X : Nat) : Nat → Nat
  | 0 => 0
  | m + 1 => gT X m + (m + 1) * X ^ (m + 1)
theorem val_geo (B w e s : Nat) : ∀ m, val B (geo w e s m) = w * (B ^ e * gS (B ^ s) m)
  | 0 => by simp [geo, val, gS]
  | m + 1 => by
    simp only [geo, val_append, val_geo B w e s m, val, gS, Nat.mul_add, ← Nat.pow_mul, Nat.pow_add, Nat.add_zero]
theorem val_ag (B w d e s : Nat) : ∀ m, val B (ag w d e s m) = B ^ e * (w * gS (B ^ s) m + d * gT (B ^ s) m)
  | 0 => by simp [ag, val, gS, gT]; grind
  | m + 1 => by
    simp only [ag, val_append, val_ag B w d e s m, val, gS, gT, Nat.pow_add, Nat.add_zero, Nat.pow_mul]
    generalize (B ^ s) ^ m = a
    generalize (B ^ s) ^ 1 = b
    generalize gS (B ^ s) m = c
    generalize gT (B ^ s) m = t
    generalize B ^ e = x
    grind
theorem gS_eq (X : Nat) : ∀ m, gS X m * X + 1 = X ^ (m + 1) + gS X m
  | 0 => by simp [gS]
  | m + 1 => by
    have := gS_eq X m
    simp only [gS, Nat.add_mul]
    have e : X ^ (m + 1 + 1) = X ^ (m + 1) * X := Nat.pow_succ ..
    omega
theorem gT_eq (X : Nat) : ∀ m, gT X m * X + gS X m = m * X ^ (m + 1) + gT X m + 1
  | 0 => by simp [gS, gT]
  | m + 1 => by
    have := gT_eq X m
    simp only [gS, gT, Nat.add_mul]
    have e : X ^ (m + 1 + 1) = X ^ (m + 1) * X := Nat.pow_succ ..
    rw [e]
    generalize X ^ (m + 1) = y at *
    grind
theorem div_of {a b c : Nat} (hb : 0 < b) (h : c * b = a) : a / b = c := by rw [← h, Nat.mul_div_cancel _ hb]
theorem gS_div {X : Nat} (hX : 2 ≤ X) (m : Nat) : gS X m = (X ^ (m + 1) - 1) / (X - 1) := by
  symm
  refine div_of (by omega) ?_
  have := gS_eq X m
  rw [Nat.mul_sub, Nat.mul_one]; omega
theorem gT_div {X : Nat} (hX : 2 ≤ X) (m : Nat) : gT X m = (m * X ^ (m + 1) + 1 - gS X m) / (X - 1) := by
  symm
  refine div_of (by omega) ?_
  have := gT_eq X m
  rw [Nat.mul_sub, Nat.mul_one]; omega

/-- A list's weights, all together, are above each coefficient. -/
theorem co_le (n : Nat) : ∀ l : List WE, co n l ≤ val 1 l
  | [] => Nat.le_refl _
  | p :: r => by
    have := co_le n r
    simp only [co, val, Nat.one_pow, Nat.mul_one]
    split <;> omega
end Go.Proofs.Ytifnooogklfifaa.Ser
