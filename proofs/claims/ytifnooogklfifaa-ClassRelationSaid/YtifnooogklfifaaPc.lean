-- Plain laws of the row law11: the document's classes and its weighted number.
import Derived.Test.YtifnooogklfifaaPb
import Derived.Test.YtifnooogklfifaaFk
namespace Go.Proofs.Ytifnooogklfifaa.Cls
open Go Go.Proofs.Ytifnooogklfifaa.Ev
open Go.Proofs.Ytifnooogklfifaa.Pure (wi64_id)
set_option linter.unusedVariables false
set_option linter.unusedSimpArgs false

theorem gcd_loop (N : Nat) {R : Type} (K : Int → Option R) : ∀ (n : Nat) (x y : Int), 0 ≤ x → 0 ≤ y → y < n → parquetref11_Gcd.l1 N n x y K = K (gcdI x y)
  | 0, x, y, _, h, h2 => by omega
  | n + 1, x, y, h0, h1, h2 => by
    rw [parquetref11_Gcd.l1]
    by_cases hy : y > 0
    · have e : Int.tmod x y = x % y := Int.tmod_eq_emod_of_nonneg h0
      have c1 : (!(y == 0)) = true := by simp; omega
      rw [decide_eq_true hy, c1, cond_true, cond_true, e, gcd_loop N K n y (x % y) h1 (Int.emod_nonneg _ (by omega)) (by have := Int.emod_lt_of_pos x hy; omega)]
      rw [show gcdI y (x % y) = gcdI x y from NatL.gcd_step h0 hy]
    · have : y = 0 := by omega
      subst this
      rw [decide_eq_false hy, show gcdI x 0 = x from NatL.gcd_zero h0]
      rfl

theorem rgcd {N : Nat} {x y : Int} (h0 : 0 ≤ x) (h1 : 0 ≤ y) (h2 : y < N) : parquetref11_Gcd.f N x y = some (gcdI x y) := by
  unfold parquetref11_Gcd.f
  rw [gcd_loop N _ N x y h0 h1 h2]

theorem gcdI_nn (a b : Int) : 0 ≤ gcdI a b := by unfold gcdI; omega
theorem gcdI_neg (a b : Int) : gcdI a (-b) = gcdI a b := by simp [gcdI]

theorem rcontent {N : Nat} {a b c : Int} (ha : 0 ≤ a) (hb : -N < b) (hb2 : b < N) (hc : 0 ≤ c) (hc2 : c < N) (hb3 : -1000000000 < b) : parquetref11_Content.f N a b c = some (cont a b c) := by
  unfold parquetref11_Content.f cont
  by_cases h : b < 0
  · have e : wi64 (0 - b) = -b := by rw [show 0 - b = -b by omega]; exact wi64_id (by omega) (by omega)
    rw [decide_eq_true h, e, cond_true, rgcd ha (by omega) (by omega)]
    simp only [Option.bind_some]
    rw [rgcd (gcdI_nn _ _) hc hc2, gcdI_neg]
    rfl
  · rw [decide_eq_false h, cond_false, rgcd ha (by omega) hb2]
    simp only [Option.bind_some]
    rw [rgcd (gcdI_nn _ _) hc hc2]
    rfl

/-- A list whose forms are small. -/
structure Tame (R : List R3) : Prop where
  len : (R.length : Int) ≤ 45000
  el : ∀ x ∈ R, 0 < x.1 ∧ x.1 ≤ 147 ∧ -148 < x.2.1 ∧ x.2.1 < 148 ∧ 0 < x.2.2 ∧ x.2.2 ≤ 100000

theorem Rd.csmall {d a b c : Int} (h : Rd d a b c) (hd : -65536 ≤ d) : 0 < c ∧ c ≤ 100000 := by
  have h0 := h.small hd
  have h1 := h.cge
  have h2 := h.pos
  have h3 := sq_small (b := b) (M := 147) (by have := h.lo; omega) (by have := h.hi; omega)
  have h4 := h.eq
  have h5 : 1 * c ≤ a * c := Int.mul_le_mul_of_nonneg_right (by omega) (by omega)
  have e : 4 * a * c = 4 * (a * c) := by grind
  omega

theorem Rd.tame {d : Int} (hd : -65536 ≤ d) {R : List R3} (h : Ris (Rd d) R) (hl : (R.length : Int) ≤ 45000) : Tame R :=
  ⟨hl, fun x hx => by
    have k := (h.mem x).1 hx
    have k1 := k.csmall hd; have k2 := k.small hd; have k3 := k.pos; have k4 := k.lo; have k5 := k.hi
    omega⟩

theorem flat3_at {R : List R3} {i : Nat} (h : i < R.length) : (flat3 R).getD (i * 3) 0 = R[i].1 ∧ (flat3 R).getD (i * 3 + 1) 0 = R[i].2.1 ∧ (flat3 R).getD (i * 3 + 2) 0 = R[i].2.2 := by
  simp only [List.getD_eq_getElem?_getD]
  refine ⟨?_, ?_, ?_⟩
  · rw [flat3_get R (i * 3) (by omega), show i * 3 % 3 = 0 by omega, show i * 3 / 3 = i by omega]; simp [List.getElem?_eq_getElem h]
  · rw [flat3_get R (i * 3 + 1) (by omega), show (i * 3 + 1) % 3 = 1 by omega, show (i * 3 + 1) / 3 = i by omega]; simp [List.getElem?_eq_getElem h]
  · rw [flat3_get R (i * 3 + 2) (by omega), show (i * 3 + 2) % 3 = 2 by omega, show (i * 3 + 2) / 3 = i by omega]; simp [List.getElem?_eq_getElem h]

theorem len_flat3 (R : List R3) : ((flat3 R).length / 3 : Int) = R.length := by rw [flat3_length]; omega

theorem beqd (a b : Int) : (a == b) = decide (a = b) := rfl
def prim (x : R3) : Bool := cont x.1 x.2.1 x.2.2 == 1
def wt (x : R3) : Int := if x.2.1 = 0 ∧ x.1 = x.2.2 then 6 else if x.1 = x.2.1 ∧ x.1 = x.2.2 then 4 else 12
def wsum : List R3 → Int
  | [] => 0
  | x :: r => wt x + wsum r
theorem wt_bd (x : R3) : 4 ≤ wt x ∧ wt x ≤ 12 := by unfold wt; repeat' split <;> omega
theorem wsum_bd : ∀ R : List R3, 0 ≤ wsum R ∧ wsum R ≤ 12 * R.length
  | [] => by simp [wsum]
  | x :: r => by
    have := wsum_bd r; have := wt_bd x
    simp only [wsum, List.length_cons]; omega
theorem wsum_append : ∀ a b : List R3, wsum (a ++ b) = wsum a + wsum b
  | [], b => by simp [wsum]
  | x :: r, b => by simp only [List.cons_append, wsum, wsum_append r b]; omega
theorem wsum_perm {a b : List R3} (h : a.Perm b) : wsum a = wsum b := by
  induction h with
  | nil => rfl
  | cons x _ ih => simp only [wsum, ih]
  | swap x y l => simp only [wsum]; omega
  | trans _ _ h1 h2 => exact h1.trans h2

theorem drop_step {R : List R3} {i : Nat} (h : i < R.length) : R.drop i = R[i] :: R.drop (i + 1) := by rw [List.drop_eq_getElem_cons h]

theorem rall_loop {N : Nat} (hN : 200000 < N) {R : List R3} (hR : Tame R) {T : Type} (K : List Int → Option T) : ∀ (n i : Nat) (X : List R3), i ≤ R.length → R.length - i < n → X.length ≤ i →
    parquetref11_All.l4 N n (flat3 R) i (flat3 X) K = K (flat3 (X ++ (R.drop i).filter prim))
  | 0, i, X, _, h, _ => by omega
  | n + 1, i, X, h1, h2, h3 => by
    have hl := hR.len
    rw [parquetref11_All.l4, len_flat3]
    by_cases hi : i < R.length
    · obtain ⟨e1, e2, e3⟩ := flat3_at hi
      obtain ⟨k1, k2, k3, k4, k5, k6⟩ := hR.el R[i] (List.getElem_mem hi)
      have c0 : decide ((i : Int) < R.length) = true := decide_eq_true (by omega)
      have c1 : decide ((0 : Int) ≤ i) = true := decide_eq_true (by omega)
      have w1 : wi64 ((i : Int) + 1) = ((i + 1 : Nat) : Int) := by rw [wi64_id (by omega) (by omega)]; omega
      have hroom := roomy_flat (R := X) (by omega)
      have hg : parquetref11_Content.f N R[i].1 R[i].2.1 R[i].2.2 = some (cont R[i].1 R[i].2.1 R[i].2.2) := rcontent (by omega) (by omega) (by omega) (by omega) (by omega) (by omega)
      simp only [c0, c1, cond_true, Bool.and_self, Int.toNat_natCast, e1, e2, e3, hg, Option.bind_some, hroom, w1, flat3_snoc]
      rw [drop_step hi]
      cases hp : cont R[i].1 R[i].2.1 R[i].2.2 == 1 with
      | true =>
        rw [cond_true, rall_loop hN hR K n (i + 1) _ (by omega) (by omega) (by simp; omega), List.filter_cons_of_pos (by exact hp)]
        simp
      | false =>
        rw [cond_false, rall_loop hN hR K n (i + 1) _ (by omega) (by omega) (by omega), List.filter_cons_of_neg (by unfold prim; rw [hp]; simp)]
    · have : i = R.length := by omega
      subst this
      rw [decide_eq_false (by omega)]
      simp

theorem rall_told {N : Nat} (hN : 200000 < N) {d : Int} (hd : -65536 ≤ d) (hd0 : d < 0) {R : List R3} (hR : Ris (Rd d) R) : parquetref11_All.f N d = some (flat3 (R.filter prim)) ∧ Tame R := by
  obtain ⟨R', h1, h2, h3⟩ := forms_told (N := N) (by omega) hd hd0
  obtain rfl := hR.one h1
  have ht := Rd.tame hd hR h2
  refine ⟨?_, ht⟩
  unfold parquetref11_All.f
  rw [h3]
  simp only [Option.bind_some]
  have := rall_loop hN ht (fun y8 => some y8) N 0 [] (by omega) (by have := ht.len; omega) (by simp)
  rw [List.drop_zero, List.nil_append] at this
  exact this

theorem rhur_loop {N : Nat} {R : List R3} (hR : Tame R) {T : Type} (K : Int → Option T) : ∀ (n i : Nat) (s : Int), i ≤ R.length → R.length - i < n → 0 ≤ s → s ≤ 12 * i →
    parquetref11_Hurwitz.l8 N n s (flat3 R) i K = K (s + wsum (R.drop i))
  | 0, i, s, _, h, _, _ => by omega
  | n + 1, i, s, h1, h2, h3, h4 => by
    have hl := hR.len
    rw [parquetref11_Hurwitz.l8, len_flat3]
    by_cases hi : i < R.length
    · obtain ⟨e1, e2, e3⟩ := flat3_at hi
      have c0 : decide ((i : Int) < R.length) = true := decide_eq_true (by omega)
      have c1 : decide ((0 : Int) ≤ i) = true := decide_eq_true (by omega)
      have w1 : wi64 ((i : Int) + 1) = ((i + 1 : Nat) : Int) := by rw [wi64_id (by omega) (by omega)]; omega
      have w2 : wi64 (s + 6) = s + 6 := wi64_id (by omega) (by omega)
      have w3 : wi64 (s + 4) = s + 4 := wi64_id (by omega) (by omega)
      have w4 : wi64 (s + 12) = s + 12 := wi64_id (by omega) (by omega)
      have rec_ : ∀ t : Int, 4 ≤ t → t ≤ 12 → parquetref11_Hurwitz.l8 N n (s + t) (flat3 R) ((i + 1 : Nat) : Int) K = K (s + t + wsum (R.drop (i + 1))) := fun t t1 t2 => rhur_loop hR K n (i + 1) (s + t) (by omega) (by omega) (by omega) (by omega)
      simp only [c0, c1, cond_true, Bool.and_self, Int.toNat_natCast, e1, e2, e3, w1, w2, w3, w4, rec_ 6 (by omega) (by omega), rec_ 4 (by omega) (by omega), rec_ 12 (by omega) (by omega)]
      rw [drop_step hi]
      simp only [wsum, wt]
      have cs : ∀ p : Prop, p = True ∨ p = False := fun p => by by_cases h : p <;> simp [h]
      rcases cs (R[i].2.1 = 0) with q1 | q1 <;> rcases cs (R[i].1 = R[i].2.2) with q2 | q2 <;> rcases cs (R[i].1 = R[i].2.1) with q3 | q3 <;> simp only [beqd, q1, q2, q3, decide_true, decide_false, cond_true, cond_false, if_true, if_false, true_and, and_true, and_self, false_and, and_false, Int.add_assoc]
    · have : i = R.length := by omega
      subst this
      rw [decide_eq_false (by omega)]
      simp [wsum]

end Go.Proofs.Ytifnooogklfifaa.Cls
