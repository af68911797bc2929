-- Plain laws of the row law09: a cycle goes round, forward and back.
import Derived.Test.YtlofhdoefjmabaaPe
namespace Go.Proofs.Ytlofhdoefjmabaa.Pure
open Go Go.Proofs.Ytlofhdoefjmabaa.Ev
set_option linter.unusedVariables false
set_option linter.unusedSimpArgs false

theorem ab_pos {x : Int} (h : x ≠ 0) : 1 ≤ ab x := by rcases ab_cases x with ⟨_, e⟩ | ⟨_, e⟩ <;> omega

/-- The outer coefficients of a reduced form have unlike signs. -/
theorem outer {d s a b c : Int} (hd : Cross d s) (h : Good d a b c) (hr : Red s a b) : 4 * (ab a * ab c) = d - b * b ∧ b * b < d ∧ ((0 < a ∧ c < 0) ∨ (a < 0 ∧ 0 < c)) := by
  obtain ⟨r1, r2, r3, r4⟩ := hr
  obtain ⟨ha, hc⟩ := h.ane hd
  have p := sq_mono (show 0 ≤ b by omega) r2
  have lo := hd.root.lo
  have hne := hd.ne
  have hdd := h.disc
  have hlt : b * b < d := by omega
  have e1 : 4 * a * c = 4 * (a * c) := by grind
  have e2 : a * c < 0 := by omega
  have e3 : ab (a * c) = -(a * c) := by rcases ab_cases (a * c) with ⟨_, e⟩ | ⟨_, e⟩ <;> omega
  rw [ab_mul] at e3
  refine ⟨by omega, hlt, ?_⟩
  rcases Int.lt_or_le 0 a with h1 | h1
  · left
    refine ⟨h1, ?_⟩
    rcases Int.lt_or_le c 0 with h2 | h2
    · exact h2
    · have := Int.mul_nonneg (show 0 ≤ a by omega) h2; omega
  · right
    refine ⟨by omega, ?_⟩
    rcases Int.lt_or_le 0 c with h2 | h2
    · exact h2
    · have := Int.mul_nonneg (show 0 ≤ -a by omega) (show 0 ≤ -c by omega)
      have e : -a * -c = a * c := by grind
      omega

/-- Reduced from the other end. -/
theorem red_other {d s a b c : Int} (hd : Cross d s) (h : Good d a b c) (hr : Red s a b) : Red s c b := by
  obtain ⟨e1, e2, _⟩ := outer hd h hr
  obtain ⟨r1, r2, r3, r4⟩ := hr
  have lo := hd.root.lo
  have hi := hd.root.hi
  have hne := hd.ne
  have ha := ab_nonneg a
  have hc := ab_nonneg c
  refine ⟨r1, r2, ?_, ?_⟩
  · rcases Int.lt_or_le s (b + 2 * ab c) with h1 | h1
    · exact h1
    · exfalso
      have p := Int.mul_le_mul_of_nonneg_left (show 2 * ab c ≤ s - b by omega) (show 0 ≤ 2 * ab a by omega)
      have q := Int.mul_le_mul_of_nonneg_right (show 2 * ab a ≤ s + b by omega) (show 0 ≤ s - b by omega)
      have g1 : 2 * ab a * (2 * ab c) = 4 * (ab a * ab c) := by grind
      have g2 : (s + b) * (s - b) = s * s - b * b := by grind
      omega
  · rcases Int.lt_or_le s (2 * ab c - b) with h1 | h1
    · exfalso
      have p := Int.mul_le_mul_of_nonneg_left (show s + 1 + b ≤ 2 * ab c by omega) (show 0 ≤ 2 * ab a by omega)
      have q := Int.mul_le_mul_of_nonneg_right (show s + 1 - b ≤ 2 * ab a by omega) (show 0 ≤ s + 1 + b by omega)
      have g1 : 2 * ab a * (2 * ab c) = 4 * (ab a * ab c) := by grind
      have g2 : (s + 1 - b) * (s + 1 + b) = (s + 1) * (s + 1) - b * b := by grind
      omega
    · exact h1

/-- One number of a row of rests. -/
theorem uniqB (s c x y p q b : Int) (hc : c ≠ 0) (x1 : s - 2 * ab c < x) (x2 : x ≤ s) (y1 : s - 2 * ab c < y) (y2 : y ≤ s) (hx : x = 2 * c * p + b) (hy : y = 2 * c * q + b) : x = y := by
  have hp := ab_pos hc
  have e : x - y = 2 * c * (p - q) := by rw [hx, hy]; grind
  have e2 : ab (x - y) = 2 * ab c * ab (p - q) := by
    rw [e, ab_mul, ab_mul]; rfl
  rcases Int.lt_or_le 0 (ab (p - q)) with h | h
  · have := Int.mul_le_mul_of_nonneg_left (show 1 ≤ ab (p - q) by omega) (show 0 ≤ 2 * ab c by omega)
    rcases ab_cases (x - y) with ⟨_, g⟩ | ⟨_, g⟩ <;> omega
  · have h0 : ab (p - q) = 0 := by have := ab_nonneg (p - q); omega
    rw [h0] at e2
    rcases ab_cases (x - y) with ⟨_, g⟩ | ⟨_, g⟩ <;> omega

theorem red_next {d s a b c : Int} (hd : Cross d s) (h : Good d a b c) (hr : Red s a b) : Red s c (nB s b c) ∧ nB s (nB s b c) c = b ∧ nC s (nC s a b c) (nB s b c) c = a := by
  obtain ⟨o1, o2, o3, o4⟩ := red_other hd h hr
  obtain ⟨_, hc⟩ := h.ane hd
  have hp := ab_pos hc
  have ht : top s c = s := by unfold top; rw [if_neg (by omega)]
  obtain ⟨n1, n2, n3⟩ := nB_spec s b c hc
  rw [ht] at n1 n2
  have hk : nB s b c ≥ 2 * ab c - b := by
    rcases Int.lt_or_le (nB s b c) (2 * ab c - b) with h1 | h1
    · exfalso
      have e : nB s b c + b = 2 * c * nK s b c := by omega
      have e2 : ab (nB s b c + b) = 2 * ab c * ab (nK s b c) := by rw [e, ab_mul, ab_mul]; rfl
      have e3 : ab (nB s b c + b) = nB s b c + b := by rcases ab_cases (nB s b c + b) with ⟨_, g⟩ | ⟨_, g⟩ <;> omega
      have hkn := ab_nonneg (nK s b c)
      rcases Int.lt_or_le 0 (ab (nK s b c)) with h2 | h2
      · have := Int.mul_le_mul_of_nonneg_left (show 1 ≤ ab (nK s b c) by omega) (show 0 ≤ 2 * ab c by omega)
        omega
      · have h0 : ab (nK s b c) = 0 := by omega
        rw [h0] at e2
        omega
    · exact h1
  have hred : Red s c (nB s b c) := by
    refine ⟨?_, n2, by omega, by omega⟩
    omega
  have hb : nB s (nB s b c) c = b := by
    obtain ⟨m1, m2, m3⟩ := nB_spec s (nB s b c) c hc
    rw [ht] at m1 m2
    refine uniqB s c _ _ (nK s (nB s b c) c - nK s b c) 0 b hc m1 m2 (by omega) (by omega) ?_ (by omega)
    rw [m3, n3]; grind
  refine ⟨hred, hb, ?_⟩
  have g1 := nC_mul d s a b c hc h.disc
  have g2 := nC_mul d s (nC s a b c) (nB s b c) c hc (by have e : 4 * nC s a b c * c = 4 * c * nC s a b c := by grind
                                                         omega)
  rw [hb] at g2
  have := h.disc
  have e : 4 * a * c = 4 * c * a := by grind
  have e2 : 4 * c * nC s (nC s a b c) (nB s b c) c = 4 * c * a := by omega
  exact Int.eq_of_mul_eq_mul_left (by omega) e2

/- The rounds -/
abbrev T3 := Int × Int × Int
def stp (s : Int) (x : T3) : T3 := (x.2.2, nB s x.2.1 x.2.2, nC s x.1 x.2.1 x.2.2)
def orb (s : Int) (x : T3) : Nat → T3
  | 0 => x
  | n + 1 => stp s (orb s x n)
def OKf (d s : Int) (x : T3) : Prop := Good d x.1 x.2.1 x.2.2 ∧ Red s x.1 x.2.1
def bk (s : Int) (x : T3) : T3 := (nC s x.2.2 x.2.1 x.1, nB s x.2.1 x.1, x.1)

theorem stp_ok {d s : Int} (hd : Cross d s) {x : T3} (h : OKf d s x) : OKf d s (stp s x) := ⟨(h.1.next hd).1, (red_next hd h.1 h.2).1⟩
theorem bk_stp {d s : Int} (hd : Cross d s) {x : T3} (h : OKf d s x) : bk s (stp s x) = x := by
  obtain ⟨_, h1, h2⟩ := red_next hd h.1 h.2
  unfold bk stp
  exact Prod.ext h2 (Prod.ext h1 rfl)
theorem stp_inj {d s : Int} (hd : Cross d s) {x y : T3} (h : OKf d s x) (k : OKf d s y) (e : stp s x = stp s y) : x = y := by
  rw [← bk_stp hd h, ← bk_stp hd k, e]
theorem orb_ok {d s : Int} (hd : Cross d s) {x : T3} (h : OKf d s x) : ∀ n, OKf d s (orb s x n)
  | 0 => h
  | n + 1 => stp_ok hd (orb_ok hd h n)
theorem orb_add (s : Int) (x : T3) (m : Nat) : ∀ n, orb s x (m + n) = orb s (orb s x m) n
  | 0 => rfl
  | n + 1 => by rw [← Nat.add_assoc]; simp only [orb]; rw [orb_add s x m n]
theorem orb_inj {d s : Int} (hd : Cross d s) {x y : T3} (h : OKf d s x) (k : OKf d s y) : ∀ n, orb s x n = orb s y n → x = y
  | 0, e => e
  | n + 1, e => orb_inj hd h k n (stp_inj hd (orb_ok hd h n) (orb_ok hd k n) e)

/-- A form's round: n forms, no fewer. -/
structure Round (s : Int) (x : T3) (n : Nat) : Prop where
  pos : 1 ≤ n
  back : orb s x n = x
  least : ∀ k, 1 ≤ k → k < n → orb s x k ≠ x

theorem Round.ne {d s : Int} (hd : Cross d s) {x : T3} (h : OKf d s x) {n : Nat} (hr : Round s x n) {i j : Nat} (hi : i < j) (hj : j < n) : orb s x i ≠ orb s x j := by
  intro e
  have : j = (j - i) + i := by omega
  rw [this, orb_add] at e
  exact hr.least (j - i) (by omega) (by omega) (orb_inj hd h (orb_ok hd h _) i e).symm

theorem Round.wrap {s : Int} {x : T3} {n : Nat} (hr : Round s x n) (k : Nat) : orb s x (n + k) = orb s x k := by rw [orb_add, hr.back]

theorem Round.turn {d s : Int} (hd : Cross d s) {x : T3} (h : OKf d s x) {n : Nat} (hr : Round s x n) (m : Nat) : Round s (orb s x m) n where
  pos := hr.pos
  back := by rw [← orb_add, Nat.add_comm, hr.wrap]
  least k h1 h2 e := hr.least k h1 h2 (by
    rw [← orb_add, Nat.add_comm, orb_add] at e
    exact orb_inj hd (orb_ok hd h k) h m e)

theorem sign_step {d s : Int} (hd : Cross d s) {x : T3} (h : OKf d s x) : (0 < (stp s x).1) ↔ ¬ 0 < x.1 := by
  obtain ⟨_, _, o⟩ := outer hd h.1 h.2
  unfold stp
  dsimp only
  omega
theorem sign_orb {d s : Int} (hd : Cross d s) {x : T3} (h : OKf d s x) : ∀ n : Nat, (0 < (orb s x n).1) ↔ ((n % 2 = 0) ↔ 0 < x.1)
  | 0 => by simp [orb]
  | n + 1 => by
    have h1 := sign_orb hd h n
    have h2 := sign_step hd (orb_ok hd h n)
    simp only [orb]
    rw [h2, h1]
    rcases (show n % 2 = 0 ∨ n % 2 = 1 by omega) with e | e
    · have : ¬ (n + 1) % 2 = 0 := by omega
      simp [e, this]
    · have h3 : (n + 1) % 2 = 0 := by omega
      have h4 : ¬ n % 2 = 0 := by omega
      simp [h3, h4]
theorem Round.even {d s : Int} (hd : Cross d s) {x : T3} (h : OKf d s x) {n : Nat} (hr : Round s x n) : n % 2 = 0 := by
  have h1 := sign_orb hd h n
  rw [hr.back] at h1
  rcases (show n % 2 = 0 ∨ n % 2 = 1 by omega) with e | e
  · exact e
  · have h4 : ¬ n % 2 = 0 := by omega
    simp [h4] at h1
    omega

def flat (s : Int) (x : T3) : Nat → List Int
  | 0 => []
  | n + 1 => flat s x n ++ [(orb s x n).1, (orb s x n).2.1, (orb s x n).2.2]
theorem flat_len (s : Int) (x : T3) : ∀ n, (flat s x n).length = n * 3
  | 0 => rfl
  | n + 1 => by simp [flat, flat_len s x n]; omega
theorem flat_get (s : Int) (x : T3) : ∀ (n i : Nat), i < n → (flat s x n).getD (i * 3) 0 = (orb s x i).1 ∧ (flat s x n).getD (i * 3 + 1) 0 = (orb s x i).2.1 ∧ (flat s x n).getD (i * 3 + 2) 0 = (orb s x i).2.2
  | 0, i, h => by omega
  | n + 1, i, h => by
    have hl := flat_len s x n
    simp only [flat]
    by_cases hi : i < n
    · have ih := flat_get s x n i hi
      simp only [List.getD_eq_getElem?_getD] at ih ⊢
      rw [List.getElem?_append_left (by omega), List.getElem?_append_left (by omega), List.getElem?_append_left (by omega)]
      exact ih
    · have : i = n := by omega
      subst this
      simp only [List.getD_eq_getElem?_getD]
      rw [List.getElem?_append_right (by omega), List.getElem?_append_right (by omega), List.getElem?_append_right (by omega), hl]
      simp [Nat.add_sub_cancel_left]

theorem eq3 (x y : T3) : ((x.1 == y.1) && ((x.2.1 == y.2.1) && (x.2.2 == y.2.2))) = decide (x = y) := by
  rw [Bool.eq_iff_iff]
  simp only [Bool.and_eq_true, beq_iff_eq, decide_eq_true_eq]
  exact ⟨fun h => Prod.ext h.1 (Prod.ext h.2.1 h.2.2), fun h => by subst h; exact ⟨rfl, rfl, rfl⟩⟩

theorem round_go {N : Nat} (hN : 8589934600 < N) {d s : Int} (hd : Cross d s) {x : T3} (h : OKf d s x) : ∀ (n k : Nat), 1 ≤ k → k ≤ 4096 → 4096 - k < n → (∀ j, 1 ≤ j → j ≤ k → orb s x j ≠ x) →
    (∃ m, m ≤ 4096 ∧ Round s x m ∧ ∀ {R : Type} (K : Bool → List Int → Option R), cycle_round.l1000001 N n d s x.1 x.2.1 x.2.2 (flat s x k) (orb s x k).1 (orb s x k).2.1 (orb s x k).2.2 K = K false (flat s x m)) ∨
    ((∀ m, Round s x m → 4096 < m) ∧ ∀ {R : Type} (K : Bool → List Int → Option R), cycle_round.l1000001 N n d s x.1 x.2.1 x.2.2 (flat s x k) (orb s x k).1 (orb s x k).2.1 (orb s x k).2.2 K = K true (flat s x 4096)) := by
  intro n
  induction n with
  | zero => intro k _ _ h; omega
  | succ n ih =>
    intro k k1 k2 hf hne
    have hl := flat_len s x k
    have ho := orb_ok hd h k
    by_cases hk : k = 4096
    · subst hk
      right
      refine ⟨fun m hm => ?_, fun K => ?_⟩
      · rcases Nat.lt_or_ge 4096 m with h1 | h1
        · exact h1
        · exact absurd hm.back (hne m hm.pos h1)
      · have e1 : (((flat s x 4096).length / 3 : Int) == 4096) = true := by simp; omega
        rw [cycle_round.l1000001, e1]; rfl
    · have e1 : (((flat s x k).length / 3 : Int) == 4096) = false := by simp; omega
      have e2 : roomy (((flat s x k).length + 3) / 3) 24 = true := roomy_ok (by omega)
      have e3 : ((orb s x k).2.2 == x.1 && (nB s (orb s x k).2.1 (orb s x k).2.2 == x.2.1 && nC s (orb s x k).1 (orb s x k).2.1 (orb s x k).2.2 == x.2.2)) = decide (orb s x (k + 1) = x) := eq3 (stp s (orb s x k)) x
      by_cases hq : orb s x (k + 1) = x
      · left
        refine ⟨k + 1, by omega, ⟨by omega, hq, fun j j1 j2 => hne j j1 (by omega)⟩, fun K => ?_⟩
        rw [cycle_round.l1000001, e1, e2, next_model N hd ho.1]
        simp only [cond_true, cond_false, Option.bind_some, e3, hq, decide_true, Bool.not_true]
        rfl
      · have key : ∀ {R : Type} (K : Bool → List Int → Option R), cycle_round.l1000001 N (n + 1) d s x.1 x.2.1 x.2.2 (flat s x k) (orb s x k).1 (orb s x k).2.1 (orb s x k).2.2 K = cycle_round.l1000001 N n d s x.1 x.2.1 x.2.2 (flat s x (k + 1)) (orb s x (k + 1)).1 (orb s x (k + 1)).2.1 (orb s x (k + 1)).2.2 K := fun K => by
          rw [cycle_round.l1000001, e1, e2, next_model N hd ho.1]
          simp only [cond_true, cond_false, Option.bind_some, e3, hq, decide_false, Bool.not_false]
          rfl
        rcases ih (k + 1) (by omega) (by omega) (by omega) (fun j j1 j2 => by
          rcases Nat.lt_or_ge j (k + 1) with h1 | h1
          · exact hne j j1 (by omega)
          · have : j = k + 1 := by omega
            subst this; exact hq) with ⟨m, m1, m2, m3⟩ | ⟨m1, m2⟩
        · exact .inl ⟨m, m1, m2, fun K => by rw [key]; exact m3 K⟩
        · exact .inr ⟨m1, fun K => by rw [key]; exact m2 K⟩

theorem round_exact {N : Nat} (hN : 8589934600 < N) {d s : Int} (hd : Cross d s) {x : T3} (h : OKf d s x) :
    (∃ m, m ≤ 4096 ∧ Round s x m ∧ cycle_round.f N x.1 x.2.1 x.2.2 = some (flat s x m, false)) ∨ ((∀ m, Round s x m → 4096 < m) ∧ cycle_round.f N x.1 x.2.1 x.2.2 = some (flat s x 4096, true)) := by
  obtain ⟨r, hr, r1, r2⟩ := root_model hN hd.d1 hd.d2
  have := hr.unique hd.root
  subst this
  have e3 : (x.2.2 == x.1 && (nB r x.2.1 x.2.2 == x.2.1 && nC r x.1 x.2.1 x.2.2 == x.2.2)) = decide (orb r x 1 = x) := eq3 (stp r x) x
  unfold cycle_round.f cycle_round.s1000001 cycle_disc.f
  rw [disc_id h.1]
  have e1 : ((([] : List Int).length / 3 : Int) == 4096) = false := by decide
  have e2 : roomy ((([] : List Int).length + 3) / 3) 24 = true := by decide
  simp only [Option.bind_some, r1, next_model N hd h.1, e1, e2, cond_true, cond_false, e3]
  by_cases hq : orb r x 1 = x
  · simp only [hq, decide_true, Bool.not_true, cond_false]
    exact .inl ⟨1, by omega, ⟨by omega, hq, fun j j1 j2 => by omega⟩, rfl⟩
  · simp only [hq, decide_false, Bool.not_false, cond_true]
    rcases round_go hN hd h N 1 (by omega) (by omega) (by omega) (fun j j1 j2 => by
      have : j = 1 := by omega
      subst this; exact hq) with ⟨m, m1, m2, m3⟩ | ⟨m1, m2⟩
    · exact .inl ⟨m, m1, m2, m3 _⟩
    · exact .inr ⟨m1, m2 _⟩

/-- A reduced form is what it is reduced to. -/
theorem reduce_fix {N : Nat} (hN : 8589934600 < N) {d s : Int} (hd : Cross d s) {x : T3} (h : OKf d s x) : cycle_Reduce.f N x.1 x.2.1 x.2.2 = some (x.1, x.2.1, x.2.2, 1, 0, 0, 1, 0) := by
  obtain ⟨r, hr, r1, r2⟩ := root_model hN hd.d1 hd.d2
  have := hr.unique hd.root
  subst this
  obtain ⟨k1, _⟩ := reduced_model hN hd h.1
  obtain ⟨n, rfl⟩ : ∃ m, N = m + 1 := ⟨N - 1, by omega⟩
  unfold cycle_Reduce.f cycle_disc.f
  rw [(check_good hN hd h.1).1, disc_id h.1]
  simp only [Option.bind_some, bne_self_eq_false, cond_false, r1]
  rw [cycle_Reduce.l7, k1]
  simp [h.2]

/-- A reduced form's cycle. -/
theorem cycle_exact {N : Nat} (hN : 8589934600 < N) {d s a b c : Int} (hd : Cross d s) (h : Good d a b c) : ∃ x, OKf d s x ∧ (∃ p q r t, cycle_Reduce.f N a b c = some (x.1, x.2.1, x.2.2, p, q, r, t, 0)) ∧
    ((∃ m, m ≤ 4096 ∧ Round s x m ∧ cycle_round.f N x.1 x.2.1 x.2.2 = some (flat s x m, false) ∧ cycle_Cycle.f N a b c = some (flat s x m, 0)) ∨ ((∀ m, Round s x m → 4096 < m) ∧ cycle_Cycle.f N a b c = some ([], 9))) := by
  obtain ⟨a', b', c', p, q, r, t, g1, g2, g3, g4, g5⟩ := reduce_model hN hd h
  refine ⟨(a', b', c'), ⟨g3, g4⟩, ⟨p, q, r, t, g1⟩, ?_⟩
  unfold cycle_Cycle.f
  rw [g1]
  simp only [Option.bind_some, bne_self_eq_false, cond_false]
  rcases round_exact hN hd (x := (a', b', c')) ⟨g3, g4⟩ with ⟨m, m1, m2, m3⟩ | ⟨m1, m2⟩
  · left
    refine ⟨m, m1, m2, m3, ?_⟩
    rw [m3]; rfl
  · right
    refine ⟨m1, ?_⟩
    rw [m2]; rfl

theorem index_go (N : Nat) {s : Int} {x y : T3} {m : Nat} (hm : m ≤ 4096) : ∀ (n k j : Nat), k ≤ j → j < m → orb s x j = y → m - k < n → ∃ i : Nat, i < m ∧ orb s x i = y ∧ (∀ {R : Type} (K0 : Unit → Option R) (K : Int → Option R), slices_Index___parquet_api_Binary_parquet_api_Binary_.l2 N n (flat s x m) (m : Int) (k : Int) y.1 y.2.1 y.2.2 K0 K = K (i : Int)) := by
  intro n
  induction n with
  | zero => intro k j _ _ _ h; omega
  | succ n ih =>
    intro k j hk hj hy hf
    have hl := flat_len s x m
    obtain ⟨g1, g2, g3⟩ := flat_get s x m k (by omega)
    have c1 : decide ((k : Int) < (m : Int)) = true := decide_eq_true (by omega)
    have c2 : decide (0 ≤ (k : Int)) = true := decide_eq_true (by omega)
    have c3 : decide ((k : Int) < ((flat s x m).length / 3 : Int)) = true := decide_eq_true (by omega)
    have e3 := eq3 y (orb s x k)
    by_cases hq : y = orb s x k
    · refine ⟨k, by omega, hq.symm, fun K0 K => ?_⟩
      rw [slices_Index___parquet_api_Binary_parquet_api_Binary_.l2]
      simp only [c1, c2, c3, Int.toNat_natCast, g1, g2, g3, e3, hq, decide_true, cond_true, Bool.and_self]
      simp
    · have hkj : k ≠ j := fun e => hq (by rw [e]; exact hy.symm)
      obtain ⟨i, i1, i2, i3⟩ := ih (k + 1) j (by omega) hj hy (by omega)
      refine ⟨i, i1, i2, fun K0 K => ?_⟩
      have ew : wi64 ((k : Int) + 1) = ((k + 1 : Nat) : Int) := by rw [wi64_id (by omega) (by omega)]; simp
      rw [slices_Index___parquet_api_Binary_parquet_api_Binary_.l2]
      simp only [c1, c2, c3, Int.toNat_natCast, g1, g2, g3, e3, hq, decide_false, cond_true, cond_false, Bool.and_self, ew]
      exact i3 K0 K

theorem proper_at {N : Nat} (hN : 8589934600 < N) {d s a b c p q r t : Int} (hd : Cross d s) {x : T3} (hx : OKf d s x) (hred : cycle_Reduce.f N a b c = some (x.1, x.2.1, x.2.2, p, q, r, t, 0)) {m : Nat} (hm : m ≤ 4096) (hround : cycle_round.f N x.1 x.2.1 x.2.2 = some (flat s x m, false)) {i : Nat} (hi : i < m) :
    cycle_Proper.f N a b c (orb s x i).1 (orb s x i).2.1 (orb s x i).2.2 = some (true, 0) := by
  have ho := orb_ok hd hx i
  have hl := flat_len s x m
  obtain ⟨j, j1, j2, j3⟩ := index_go N (s := s) (x := x) hm N 0 i (by omega) hi rfl (by omega)
  unfold cycle_Proper.f cycle_disc.f slices_Contains___parquet_api_Binary_parquet_api_Binary_.f slices_Index___parquet_api_Binary_parquet_api_Binary_.f
  rw [hred, reduce_fix hN hd ho]
  simp only [Option.bind_some, bne_self_eq_false, cond_false, disc_id hx.1, disc_id ho.1, hround]
  have e0 : ((flat s x m).length / 3 : Int) = (m : Int) := by omega
  have e1 : ((0 : Nat) : Int) = 0 := rfl
  rw [e1] at j3
  rw [e0, j3]
  have : decide ((j : Int) ≥ 0) = true := decide_eq_true (by omega)
  simp [this]

end Go.Proofs.Ytlofhdoefjmabaa.Pure
