-- Plain laws of the row law11: ClassRelation, the class number relation of Kronecker and Hurwitz.
import Derived.Test.YtifnooogklfifaaPj
namespace Go.Proofs.Ytifnooogklfifaa.Cls
open Go Go.Proofs.Ytifnooogklfifaa.Ev Go.Proofs.Ytifnooogklfifaa.Ser
open Go.Proofs.Ytifnooogklfifaa.Pure (wi64_id)
set_option linter.unusedVariables false
set_option linter.unusedSimpArgs false

/- Sums -/
def si (f : Nat → Int) : Nat → Int
  | 0 => 0
  | n + 1 => si f n + f (n + 1)
def su (f : Nat → Int) : Nat → Nat → Int
  | _, 0 => 0
  | t, k + 1 => f t + su f (t + 1) k
theorem su_snoc (f : Nat → Int) : ∀ (k t : Nat), su f t (k + 1) = su f t k + f (t + k)
  | 0, t => by simp [su]
  | k + 1, t => by
    rw [su, su_snoc f k (t + 1), su]
    have : t + 1 + k = t + (k + 1) := by omega
    rw [this]; omega
theorem su_si (f : Nat → Int) : ∀ k, su f 1 k = si f k
  | 0 => rfl
  | k + 1 => by rw [su_snoc, su_si f k, si, Nat.add_comm 1 k]
theorem si_congr {f g : Nat → Int} : ∀ (n : Nat), (∀ i, 1 ≤ i → i ≤ n → f i = g i) → si f n = si g n
  | 0, _ => rfl
  | n + 1, h => by simp only [si]; rw [si_congr n (fun i h1 h2 => h i h1 (by omega)), h (n + 1) (by omega) (by omega)]
theorem si_add (f g : Nat → Int) : ∀ n, si (fun i => f i + g i) n = si f n + si g n
  | 0 => rfl
  | n + 1 => by simp only [si, si_add f g n]; omega
theorem si_zero : ∀ n, si (fun _ => 0) n = 0
  | 0 => rfl
  | n + 1 => by simp [si, si_zero n]
theorem si_more {f : Nat → Int} {m : Nat} (h : ∀ i, m < i → f i = 0) : ∀ k, si f (m + k) = si f m
  | 0 => rfl
  | k + 1 => by rw [← Nat.add_assoc, si, si_more h k, h _ (by omega)]; omega
theorem si_two (f : Nat → Int) : ∀ m, si f (2 * m) = si (fun s => f (2 * s - 1) + f (2 * s)) m
  | 0 => rfl
  | m + 1 => by
    rw [show 2 * (m + 1) = 2 * m + 1 + 1 by omega, si, si, si_two f m, si, show 2 * (m + 1) - 1 = 2 * m + 1 by omega, show 2 * (m + 1) = 2 * m + 1 + 1 by omega]
    omega
theorem si_sm (g : Nat → Nat) : ∀ n, ((sm g n : Nat) : Int) = si (fun i => (g i : Int)) n
  | 0 => rfl
  | n + 1 => by simp only [sm, si]; rw [← si_sm g n]; omega
theorem si_swap (F : Nat → Nat → Int) (m : Nat) : ∀ n, si (fun d => si (fun e => F d e) m) n = si (fun e => si (fun d => F d e) n) m
  | 0 => by simp only [si]; rw [si_zero]
  | n + 1 => by
    simp only [si]
    rw [si_swap F m n, si_add]
theorem si_hit {f : Nat → Int} {j : Nat} : ∀ n, 1 ≤ j → (∀ i, i ≠ j → f i = 0) → si f n = if j ≤ n then f j else 0
  | 0, hj, _ => by rw [if_neg (by omega)]; rfl
  | n + 1, hj, h => by
    rw [si, si_hit n hj h]
    by_cases h1 : j ≤ n
    · rw [if_pos h1, if_pos (by omega), h (n + 1) (by omega)]; omega
    · rw [if_neg h1]
      by_cases h2 : j = n + 1
      · subst h2; rw [if_pos (Nat.le_refl _)]; omega
      · rw [if_neg (by omega), h (n + 1) (by omega)]; omega

/- The divisors' sum -/
section
variable (n : Nat)
def S2 (F : Nat → Nat → Int) : Int := si (fun d => si (fun e => if d * e = n then F d e else 0) n) n
theorem S2_inner (hn : 1 ≤ n) (F : Nat → Nat → Int) : S2 n F = si (fun d => if n % d = 0 then F d (n / d) else 0) n := by
  unfold S2
  refine si_congr n fun d h1 h2 => ?_
  by_cases h : n % d = 0
  · have hd : d * (n / d) = n := by have := Nat.div_add_mod n d; omega
    have hp : 1 ≤ n / d := (Nat.le_div_iff_mul_le (by omega)).2 (by omega)
    rw [si_hit (j := n / d) n hp (fun i hi => if_neg fun he => hi (by rw [← he, Nat.mul_div_cancel_left _ (by omega)])), if_pos (Nat.div_le_self _ _), if_pos hd, if_pos h]
  · rw [if_neg h, si_congr (g := fun _ => 0) n (fun e _ _ => if_neg fun he => h (by rw [← he, Nat.mul_mod_right])), si_zero]
theorem S2_swap (F : Nat → Nat → Int) : S2 n F = S2 n (fun d e => F e d) := by
  unfold S2
  rw [si_swap]
  exact si_congr n fun d _ _ => si_congr n fun e _ _ => by rw [Nat.mul_comm]
theorem S2_add (F G : Nat → Nat → Int) : S2 n (fun d e => F d e + G d e) = S2 n F + S2 n G := by
  unfold S2
  rw [← si_add]
  refine si_congr n fun d _ _ => ?_
  rw [← si_add]
  exact si_congr n fun e _ _ => by split <;> simp
theorem S2_congr {F G : Nat → Nat → Int} (h : ∀ d e, F d e = G d e) : S2 n F = S2 n G := by
  unfold S2
  exact si_congr n fun d _ _ => si_congr n fun e _ _ => by rw [h]
def fD (d e : Nat) : Int := 24 * d - 12 * (if (e : Int) < d then (e : Int) else d)
def fU (d e : Nat) : Int := if d < e then 24 * e else if d = e then 12 * d else 0
theorem S2_half : S2 n fD = S2 n fU := by
  have h1 : S2 n (fun d e => fD d e + fD e d) = S2 n fD + S2 n (fun d e => fD e d) := S2_add n fD (fun d e => fD e d)
  have h2 : S2 n (fun d e => fU d e + fU e d) = S2 n fU + S2 n (fun d e => fU e d) := S2_add n fU (fun d e => fU e d)
  have s1 := S2_swap n fD
  have s2 := S2_swap n fU
  have h3 : S2 n (fun d e => fD d e + fD e d) = S2 n (fun d e => fU d e + fU e d) := S2_congr n fun d e => by
    unfold fD fU
    repeat' split
    all_goals omega
  omega
end

theorem co_ag {w dw e s : Nat} (hs : 1 ≤ s) (n : Nat) : ∀ m, co n (ag w dw e s m) = if e ≤ n ∧ (n - e) % s = 0 ∧ (n - e) / s ≤ m then w + dw * ((n - e) / s) else 0
  | 0 => by
    simp only [ag, co]
    by_cases h : e = n
    · subst h; simp
    · rw [if_neg h, if_neg]
      rintro ⟨h1, h2, h3⟩
      have := Nat.div_add_mod (n - e) s
      rw [h2, Nat.le_zero.mp h3] at this
      omega
  | m + 1 => by
    simp only [ag, co_append, co_ag hs n m, co]
    by_cases h : e + s * (m + 1) = n
    · subst h
      have e1 : e + s * (m + 1) - e = s * (m + 1) := by omega
      rw [e1, Nat.mul_mod_right, Nat.mul_div_cancel_left _ (by omega), if_neg (by omega), if_pos rfl, if_pos (by omega)]
      omega
    · rw [if_neg h]
      by_cases h2 : e ≤ n ∧ (n - e) % s = 0 ∧ (n - e) / s ≤ m
      · rw [if_pos h2, if_pos ⟨h2.1, h2.2.1, by omega⟩]; rfl
      · rw [if_neg h2, if_neg]
        rintro ⟨k1, k2, k3⟩
        by_cases h3 : (n - e) / s = m + 1
        · have := Nat.div_add_mod (n - e) s
          rw [k2, h3] at this
          omega
        · exact h2 ⟨k1, k2, by omega⟩

def cc (n d : Nat) : Int := if n % d = 0 then fU d (n / d) else 0
theorem co_D {n : Nat} (hn : 1 ≤ n) (hn2 : n ≤ 16384) : (co n (Dl 128) : Int) = si (cc n) n := by
  unfold Dl
  rw [co_rows, si_sm, si_congr (g := cc n) 128]
  · have hz : ∀ i, n < i → cc n i = 0 := fun i hi => by unfold cc; rw [Nat.mod_eq_of_lt hi, if_neg (by omega)]
    have hz2 : ∀ i, 128 < i → cc n i = 0 := fun i hi => by
      unfold cc
      split
      · have h1 := Nat.div_add_mod n i
        rename_i h0
        rw [h0] at h1
        have h2 : i * (n / i) ≤ 16384 := by omega
        have h3 : n / i < 128 := by
          rcases Nat.lt_or_ge (n / i) 128 with h | h
          · exact h
          · have := Nat.mul_le_mul (show 129 ≤ i from hi) h; omega
        unfold fU
        rw [if_neg (by omega), if_neg (by omega)]
      · rfl
    rw [← si_more hz 128, Nat.add_comm n 128, si_more hz2 n]
  · intro d h1 h2
    simp only [co]
    rw [co_ag h1]
    have hm : ∀ e : Nat, d * e = n → e ≤ mm d := fun e he => by
      unfold mm
      exact (Nat.le_div_iff_mul_le (by omega)).2 (by rw [Nat.mul_comm, he]; exact hn2)
    unfold cc fU
    by_cases h : n % d = 0
    · have hd : d * (n / d) = n := by have := Nat.div_add_mod n d; omega
      have he := hm _ hd
      generalize n / d = e at hd he
      rw [if_pos h]
      by_cases hde : d < e
      · have e1 : n - d * (d + 1) = d * (e - (d + 1)) := by rw [Nat.mul_sub, hd]
        have hle : d * (d + 1) ≤ n := by rw [← hd]; exact Nat.mul_le_mul_left _ hde
        have hne : d * d ≠ n := by
          rw [← hd]
          have := Nat.mul_lt_mul_of_pos_left hde (show 0 < d by omega)
          omega
        rw [if_neg hne, e1, Nat.mul_mod_right, Nat.mul_div_cancel_left _ (by omega), if_pos ⟨hle, rfl, by omega⟩, if_pos hde]
        omega
      · rw [if_neg hde]
        have hgt : ¬ d * (d + 1) ≤ n := by
          rw [← hd]
          have := Nat.mul_lt_mul_of_pos_left (show e < d + 1 by omega) (show 0 < d by omega)
          omega
        by_cases h3 : d = e
        · subst h3; rw [if_pos hd, if_neg (fun x => hgt x.1), if_pos rfl]; omega
        · have hne : ¬ d * d = n := fun x => h3 (Nat.eq_of_mul_eq_mul_left (by omega) (x.trans hd.symm))
          rw [if_neg hne, if_neg (fun x => hgt x.1), if_neg h3]; omega
    · rw [if_neg h, if_neg, if_neg]
      · rfl
      · rintro ⟨k1, k2, k3⟩
        have h4 := Nat.div_add_mod (n - d * (d + 1)) d
        rw [k2] at h4
        refine h ?_
        have : n = d * (d + 1 + (n - d * (d + 1)) / d) := by rw [Nat.mul_add]; omega
        rw [this, Nat.mul_mod_right]
      · rintro rfl
        exact h (Nat.mul_mod_right _ _)

/- The class numbers' sum -/
noncomputable def hv (m : Int) : Int := match classes_Hurwitz.f N0 m with | some r => r.1 | none => 0
theorem hv_told {m : Int} (h0 : 0 ≤ m) (h1 : m ≤ 65536) : classes_Hurwitz.f N0 m = some (hv m, 0) ∧ -1 ≤ hv m ∧ hv m ≤ 540000 ∧ (m = 0 → hv m = -1) ∧ (∀ u : Nat, 1 ≤ u → m = 4 * u → hv m = co u ((T0 147).map we0)) ∧ (∀ u : Nat, 1 ≤ u → m = 4 * u - 1 → hv m = co u ((T1 147).map we1)) := by
  obtain ⟨h, k1, k2, k3⟩ := hur_told (N := N0) (by decide) h0 h1
  have e : hv m = h := by unfold hv; rw [k1]
  rw [e]
  refine ⟨k1, ?_⟩
  rcases k3 with ⟨q1, q2⟩ | ⟨q0, q1, q2⟩ | ⟨q0, q1, R, r1, r2, r3⟩
  · subst q2
    exact ⟨by omega, by omega, fun _ => rfl, fun u _ _ => by omega, fun u _ _ => by omega⟩
  · subst q2
    exact ⟨by omega, by omega, fun x => absurd x q0, fun u _ _ => by omega, fun u _ _ => by omega⟩
  · have hb := wsum_bd R
    have hl := r2.len
    refine ⟨by omega, by omega, fun x => absurd x q0, fun u h2 h3 => ?_, fun u h2 h3 => ?_⟩
    · subst h3; rw [r3]; exact co_T0 rfl h2 (by omega) r1
    · subst h3; rw [r3]; exact co_T1 rfl h2 (by omega) r1

noncomputable def gg (n t : Nat) : Int := if t * t ≤ 4 * n then (if t = 0 then 1 else 2) * hv (4 * n - t * t) else 0
theorem l5_told {n : Nat} (hn : n ≤ 16384) {R : Type} (k0 : Int → Int → Option R) (kr : Bool → Option R) : ∀ (k t fuel : Nat) (s : Int), t + k = 257 → k < fuel → -2000000 * t ≤ s → s ≤ 2000000 * t → parquetlaw11_ClassRelation.l5 N0 fuel n s t k0 kr = k0 n (s + su (gg n) t k) ∧ -2000000 * 257 ≤ s + su (gg n) t k ∧ s + su (gg n) t k ≤ 2000000 * 257
  | k, t, 0, s, _, h, _, _ => by omega
  | k, t, fuel + 1, s, ht, hf, s0, s1 => by
    have htt : t * t ≤ 257 * 257 := Nat.mul_le_mul (by omega) (by omega)
    have ei : ((t * t : Nat) : Int) = (t : Int) * t := by simp
    have e1 : wi64 ((t : Int) * t) = (t : Int) * t := wi64_id (by omega) (by omega)
    have e2 : wi64 (4 * (n : Int)) = 4 * n := wi64_id (by omega) (by omega)
    have e3 : wi64 (4 * (n : Int) - t * t) = 4 * n - t * t := wi64_id (by omega) (by omega)
    have e4 : wi64 ((t : Int) + 1) = ((t + 1 : Nat) : Int) := by rw [wi64_id (by omega) (by omega)]; omega
    rw [parquetlaw11_ClassRelation.l5, e1, e2]
    by_cases hc : t * t ≤ 4 * n
    · have hk : k ≠ 0 := by
        rintro rfl
        have : t = 257 := by omega
        subst this
        omega
      obtain ⟨k, rfl⟩ : ∃ j, k = j + 1 := ⟨k - 1, by omega⟩
      obtain ⟨h1, h2, h3, _⟩ := hv_told (m := 4 * (n : Int) - t * t) (by omega) (by omega)
      have hgg : gg n t = (if t = 0 then 1 else 2) * hv (4 * n - t * t) := by unfold gg; rw [if_pos hc]
      rw [decide_eq_true (show (t : Int) * t ≤ 4 * n by omega), e3]
      simp only [cond_true, h1, Option.bind_some, bne_self_eq_false, cond_false, e4, su]
      generalize hv (4 * (n : Int) - t * t) = v at *
      by_cases h0 : t = 0
      · subst h0
        rw [hgg, if_pos rfl, decide_eq_false (by omega)]
        have w1 : wi64 (s + v) = s + v := wi64_id (by omega) (by omega)
        rw [w1, cond_false]
        have := l5_told hn k0 kr k (0 + 1) fuel (s + v) (by omega) (by omega) (by omega) (by omega)
        rw [Int.one_mul, ← Int.add_assoc]
        exact this
      · rw [hgg, if_neg h0, decide_eq_true (by omega)]
        have w1 : wi64 (s + v) = s + v := wi64_id (by omega) (by omega)
        have w2 : wi64 (s + v + v) = s + 2 * v := by rw [wi64_id (by omega) (by omega)]; omega
        rw [w1, w2, cond_true]
        have := l5_told hn k0 kr k (t + 1) fuel (s + 2 * v) (by omega) (by omega) (by omega) (by omega)
        rw [← Int.add_assoc]
        exact this
    · have hz : ∀ (k i : Nat), t ≤ i → su (gg n) i k = 0 := by
        intro k
        induction k with
        | zero => intro i _; rfl
        | succ k ih =>
          intro i hi
          have : t * t ≤ i * i := Nat.mul_le_mul hi hi
          rw [su, ih (i + 1) (by omega)]
          unfold gg
          rw [if_neg (by omega)]; rfl
      rw [decide_eq_false (show ¬ (t : Int) * t ≤ 4 * n by omega), hz k t (Nat.le_refl _), Int.add_zero]
      exact ⟨rfl, by omega, by omega⟩

theorem l14_told {n : Nat} (hn : n ≤ 16384) {R : Type} (K : Int → Option R) (k : Nat) : ∀ (d fuel : Nat) (s : Int), 1 ≤ d → d + k = n + 1 → k < fuel → -1000000000000 + 1000000 * k ≤ s → s ≤ 1000000000 → parquetlaw11_ClassRelation.l14 N0 fuel n s d K = K (s - su (fun d => if n % d = 0 then fD d (n / d) else 0) d k) := by
  induction k with
  | zero =>
    intro d fuel s h0 h1 h2 _ _
    obtain ⟨fuel, rfl⟩ : ∃ j, fuel = j + 1 := ⟨fuel - 1, by omega⟩
    rw [parquetlaw11_ClassRelation.l14, decide_eq_false (by omega)]
    simp [su]
  | succ k ih =>
    intro d fuel s h0 h1 h2 s0 s1
    obtain ⟨fuel, rfl⟩ : ∃ j, fuel = j + 1 := ⟨fuel - 1, by omega⟩
    have e1 : Int.tmod (n : Int) d = ((n % d : Nat) : Int) := by rw [Int.tmod_eq_emod_of_nonneg (by omega)]; simp
    have hq := Nat.div_le_self n d
    have e2 : wi64 (Int.tdiv (n : Int) d) = ((n / d : Nat) : Int) := by
      have q0 : 0 ≤ (n : Int) / d := Int.ediv_nonneg (by omega) (by omega)
      have q1 : (n : Int) / d ≤ n := Int.ediv_le_self _ (by omega)
      rw [Int.tdiv_eq_ediv_of_nonneg (by omega), wi64_id (by omega) (by omega)]; simp
    have e3 : wi64 ((d : Int) + 1) = ((d + 1 : Nat) : Int) := by rw [wi64_id (by omega) (by omega)]; omega
    have c1 : (!((d : Int) == 0)) = true := by simp; omega
    rw [parquetlaw11_ClassRelation.l14, decide_eq_true (by omega), c1, e1]
    simp only [cond_true, e2, e3, su]
    generalize n / d = e at *
    by_cases h : n % d = 0
    · have hm : mn2 (d : Int) (e : Int) = if (e : Int) < d then (e : Int) else d := rfl
      have e4 : wi64 (24 * (d : Int)) = 24 * d := wi64_id (by omega) (by omega)
      have e5 : wi64 (12 * mn2 (d : Int) (e : Int)) = 12 * mn2 (d : Int) (e : Int) := wi64_id (by rw [hm]; split <;> omega) (by rw [hm]; split <;> omega)
      have hf : wi64 (24 * (d : Int) - 12 * mn2 (d : Int) (e : Int)) = fD d e := by
        unfold fD
        rw [hm, wi64_id (by split <;> omega) (by split <;> omega)]
      have hfb : 0 ≤ fD d e ∧ fD d e ≤ 1000000 := by unfold fD; split <;> omega
      rw [h, if_pos rfl, e4, e5, hf, wi64_id (by omega) (by omega), show (((0 : Nat) : Int) == 0) = true from rfl, cond_true, ih (d + 1) fuel _ (by omega) (by omega) (by omega) (by omega) (by omega)]
      congr 1; omega
    · rw [if_neg h, show (((n % d : Nat) : Int) == 0) = false by simp; omega, cond_false, ih (d + 1) fuel _ (by omega) (by omega) (by omega) (by omega) (by omega)]
      congr 1; omega

theorem co_T1_zero : co 0 ((T1 147).map we1) = 0 := by
  have := co_map we1 (fun _ => rfl) 0 (T1 147)
  have h : (T1 147).filter (fun x => (we1 x).2 == 0) = [] := by
    rw [List.filter_eq_nil_iff]
    intro x hx
    obtain ⟨a, h1, h2, h3, h4⟩ := mem_T1.1 hx
    have := ok_pos h1 h3
    have := odd_sq h4
    have e : 4 * x.1 * x.2.2 = 4 * (x.1 * x.2.2) := by grind
    simp only [we1, beq_iff_eq]; omega
  rw [h] at this
  simp only [wsum] at this
  omega

theorem co_single (k : Nat) (A : List WE) (e : Nat) : co k (mul A [(2, e)]) = if e ≤ k then 2 * co (k - e) A else 0 := by
  rw [co_mul]; rfl

theorem relation {n : Nat} (h1 : 1 ≤ n) (hn : n ≤ 16384) : su (gg n) 0 257 = su (fun d => if n % d = 0 then fD d (n / d) else 0) 1 n := by
  have hLR := co_LR (p := 147) (h := 128) rfl rfl hn
  have hR : su (fun d => if n % d = 0 then fD d (n / d) else 0) 1 n = co n (Dl 128) := by
    rw [su_si, ← S2_inner n h1, S2_half, S2_inner n h1, co_D h1 hn]
    rfl
  unfold LL RR at hLR
  rw [co_append, co_append, co_mul] at hLR
  unfold H0 H1 at hLR
  rw [mul_rows, mul_rows, co_rows, co_rows, co_rows] at hLR
  simp only [co_single, Nat.zero_le, if_true, Nat.one_mul, Nat.sub_zero] at hLR
  have hz : su (gg n) 0 257 = gg n 0 + su (gg n) 1 256 := rfl
  have hg0 : gg n 0 = co n ((T0 147).map we0) := by
    unfold gg
    rw [if_pos (by omega), if_pos rfl, Int.one_mul]
    have := (hv_told (m := 4 * (n : Int)) (by omega) (by omega)).2.2.2.2.1 n h1 rfl
    simpa using this
  have hodd : ∀ s : Nat, 1 ≤ s → s ≤ 128 → gg n (2 * s - 1) = ((if s * s - s ≤ n then 2 * co (n - (s * s - s)) ((T1 147).map we1) else 0 : Nat) : Int) := fun s hs hs2 => by
    have hsq := sq_le_self s
    have e : (2 * s - 1) * (2 * s - 1) = 4 * (s * s - s) + 1 := by
      obtain ⟨j, rfl⟩ : ∃ j, s = j + 1 := ⟨s - 1, by omega⟩
      have e1 : (j + 1) * (j + 1) - (j + 1) = j * j + j := by have : (j + 1) * (j + 1) = j * j + j + (j + 1) := by grind
                                                              omega
      have e2 : 2 * (j + 1) - 1 = 2 * j + 1 := by omega
      rw [e1, e2]; grind
    unfold gg
    have ei : (((2 * s - 1 : Nat) : Int)) * ((2 * s - 1 : Nat) : Int) = ((4 * (s * s - s) + 1 : Nat) : Int) := by rw [← e]; simp
    rw [ei, e]
    by_cases hc : s * s - s < n
    · rw [if_pos (by omega), if_neg (by omega), if_pos (by omega)]
      have := (hv_told (m := 4 * (n : Int) - ((4 * (s * s - s) + 1 : Nat) : Int)) (by omega) (by omega)).2.2.2.2.2 (n - (s * s - s)) (by omega) (by omega)
      rw [this]; omega
    · rw [if_neg (by omega)]
      by_cases hc2 : s * s - s = n
      · rw [hc2, if_pos (Nat.le_refl _), Nat.sub_self, co_T1_zero]; rfl
      · rw [if_neg (by omega)]; rfl
  have heven : ∀ s : Nat, 1 ≤ s → s ≤ 128 → gg n (2 * s) = ((if s * s ≤ n then 2 * co (n - s * s) ((T0 147).map we0) else 0 : Nat) : Int) - ((co n [(2, s * s)] : Nat) : Int) := fun s hs hs2 => by
    have e : (2 * s) * (2 * s) = 4 * (s * s) := by grind
    unfold gg
    have ei : (((2 * s : Nat) : Int)) * ((2 * s : Nat) : Int) = ((4 * (s * s) : Nat) : Int) := by rw [← e]; simp
    rw [ei, e]
    simp only [co]
    by_cases hc : s * s < n
    · rw [if_pos (by omega), if_neg (by omega), if_pos (by omega), if_neg (by omega)]
      have := (hv_told (m := 4 * (n : Int) - ((4 * (s * s) : Nat) : Int)) (by omega) (by omega)).2.2.2.2.1 (n - s * s) (by omega) (by omega)
      rw [this]; omega
    · by_cases hc2 : s * s = n
      · rw [hc2, if_pos (Nat.le_refl _), if_neg (by omega), if_pos (Nat.le_refl _), Nat.sub_self, co_T0_zero, if_pos rfl]
        have := (hv_told (m := 4 * (n : Int) - ((4 * n : Nat) : Int)) (by omega) (by omega)).2.2.2.1 (by omega)
        rw [this]; rfl
      · rw [if_neg (by omega), if_neg (by omega), if_neg hc2]; rfl
  rw [hR, hz, hg0, su_si, show 256 = 2 * 128 from rfl, si_two, si_add, si_congr 128 hodd, si_congr 128 heven]
  have hsub : ∀ f g : Nat → Int, ∀ m, si (fun i => f i - g i) m = si f m - si g m := fun f g m => by
    induction m with
    | zero => rfl
    | succ m ih => simp only [si, ih]; omega
  rw [hsub, ← si_sm, ← si_sm, ← si_sm]
  have hL : ((co n ((T0 147).map we0) + sm (fun s => if s * s ≤ n then 2 * co (n - s * s) ((T0 147).map we0) else 0) 128 + sm (fun s => if s * s - s ≤ n then 2 * co (n - (s * s - s)) ((T1 147).map we1) else 0) 128 : Nat) : Int) = ((co n (Dl 128) + sm (fun s => co n [(2, s * s)]) 128 : Nat) : Int) := by rw [hLR]
  omega
end Go.Proofs.Ytifnooogklfifaa.Cls

namespace Go.Proofs.Ytifnooogklfifaa.Pure
open Go Go.Proofs.Ytifnooogklfifaa.Ev Go.Proofs.Ytifnooogklfifaa.Cls
set_option linter.unusedVariables false

theorem ClassRelation (a1 : Int) (w1 : (Lit.int .i64 a1).wf = true) : ∃ N, parquetlaw11_ClassRelation.f N a1 = some true := by
  refine ⟨N0, ?_⟩
  unfold parquetlaw11_ClassRelation.f
  rw [works_true]
  by_cases q1 : a1 < 1
  · rw [decide_eq_true q1]; rfl
  by_cases q2 : a1 > 16384
  · rw [decide_eq_false q1, decide_eq_true q2]; rfl
  rw [decide_eq_false q1, decide_eq_false q2]
  simp only [cond_false]
  obtain ⟨n, rfl⟩ := Int.eq_ofNat_of_zero_le (show 0 ≤ a1 by omega)
  obtain ⟨h1, h2, h3⟩ := l5_told (n := n) (by omega) (R := Bool) (fun y11 y12 => parquetlaw11_ClassRelation.l14 N0 N0 y11 y12 1 (fun y17 => bif y17 == 0 then (some true).bind fun r18 => some r18 else some false)) (fun y19 => some y19) 257 0 N0 0 (by omega) (by unfold N0; omega) (by omega) (by omega)
  have e0 : ((0 : Nat) : Int) = 0 := rfl
  rw [e0] at h1
  rw [h1]
  have := l14_told (n := n) (by omega) (R := Bool) (fun y17 => bif y17 == 0 then (some true).bind fun r18 => some r18 else some false) n 1 N0 (0 + su (gg n) 0 257) (by omega) (by omega) (by unfold N0; omega) (by omega) (by omega)
  have e1 : ((1 : Nat) : Int) = 1 := rfl
  rw [e1] at this
  rw [this, relation (by omega) (by omega), Int.zero_add, Int.sub_self]
  rfl
end Go.Proofs.Ytifnooogklfifaa.Pure
