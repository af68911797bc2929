-- Plain laws of the row law11: the list's series, told by one number (no program in sight).
import Derived.Test.YtifnooogklfifaaPi
namespace Go.Proofs.Ytifnooogklfifaa.Cls
open Go Go.Proofs.Ytifnooogklfifaa.Ev Go.Proofs.Ytifnooogklfifaa.Ser
set_option linter.unusedVariables false
set_option linter.unusedSimpArgs false

theorem we0_e {a : Nat} {b c : Int} {q e : Nat} (hc : (a : Int) * c = e + q) (hq : b * b = 4 * q) : ((4 * (a : Int) * c - b * b) / 4).toNat = e := by
  have h : 4 * (a : Int) * c = 4 * ((a : Int) * c) := by grind
  omega
theorem we1_e {a : Nat} {b c : Int} {q e : Nat} (hc : (a : Int) * c = e + q) (hq : b * b = 4 * q + 1) : ((4 * (a : Int) * c - b * b + 1) / 4).toNat = e := by
  have h : 4 * (a : Int) * c = 4 * ((a : Int) * c) := by grind
  omega
theorem wt_12 {a b c : Int} (h : a ≠ c) : (wt (a, b, c)).toNat = 12 := by
  unfold wt
  rw [if_neg (fun x => h x.2), if_neg (fun x => h x.2)]; rfl
theorem wt_12' {a b : Int} (h : b ≠ 0) (h2 : a ≠ b) : (wt (a, b, a)).toNat = 12 := by
  unfold wt
  rw [if_neg (fun x => h x.1), if_neg (fun x => h2 x.1)]; rfl
theorem wt_6 {a : Int} : (wt (a, 0, a)).toNat = 6 := by
  unfold wt
  rw [if_pos ⟨rfl, rfl⟩]; rfl
theorem wt_4 {a : Int} (h : a ≠ 0) : (wt (a, a, a)).toNat = 4 := by
  unfold wt
  rw [if_neg (fun x => h x.1), if_pos ⟨rfl, rfl⟩]; rfl
theorem expo {a q : Nat} (hq : q ≤ a * (a + 1)) (j : Nat) : (a : Int) * ((a : Int) + 1 + j) = ((a * (a + 1) - q + a * j : Nat) : Int) + q := by
  have e1 : ((a * (a + 1) : Nat) : Int) = (a : Int) * (a + 1) := by simp
  have e2 : ((a * j : Nat) : Int) = (a : Int) * j := by simp
  have e3 : (a : Int) * ((a : Int) + 1 + j) = (a : Int) * (a + 1) + a * j := by grind
  omega
theorem expoS {a q : Nat} (hq : q ≤ a * a) : (a : Int) * (a : Int) = ((a * a - q : Nat) : Int) + q := by
  have e1 : ((a * a : Nat) : Int) = (a : Int) * a := by simp
  omega
theorem map_geo {we : R3 → WE} (hw : ∀ x, (we x).1 = (wt x).toNat) {a : Nat} {b : Int} {q : Nat} (hq : q ≤ a * (a + 1)) (he : ∀ c (e : Nat), (a : Int) * c = e + q → (we (a, b, c)).2 = e) : ∀ m, (geoT a b (a + 1) m).map we = geo 12 (a * (a + 1) - q) a m
  | 0 => by
    have h := expo hq 0
    simp only [geoT, geo, List.map_cons, List.map_nil, List.cons.injEq, and_true]
    refine Prod.ext (by rw [hw]; exact wt_12 (by omega)) (he _ _ (by simpa using h))
  | m + 1 => by
    simp only [geoT, geo, List.map_append, map_geo hw hq he m, List.map_cons, List.map_nil]
    congr 2
    refine Prod.ext (by rw [hw]; exact wt_12 (by omega)) (he _ _ ?_)
    have h := expo hq (m + 1)
    simpa using h

/-- S: the geometric row's sum. -/
abbrev SS (B a : Nat) : Nat := gS (B ^ a) (mm a)
theorem val_pair {we : R3 → WE} (hw : ∀ x, (we x).1 = (wt x).toNat) {a : Nat} {b : Int} (hb : 0 < b) (hba : b < a) {q : Nat} (hq : q ≤ a * a) (he : ∀ c (e : Nat), (a : Int) * c = e + q → (we (a, b, c)).2 = e ∧ (we (a, -b, c)).2 = e) (B : Nat) :
    val B ((pair a b).map we) = 12 * B ^ (a * a - q) + 24 * (B ^ (a * (a + 1) - q) * SS B a) := by
  have hq2 : q ≤ a * (a + 1) := by rw [Nat.mul_add]; omega
  unfold pair
  rw [List.map_append, List.map_cons, val_append, map_geo hw hq2 (fun c e h => (he c e h).1), map_geo hw hq2 (fun c e h => (he c e h).2), val, val_geo, hw, wt_12' (by omega) (by omega), (he _ _ (expoS hq)).1]
  unfold SS
  omega
theorem val_last {we : R3 → WE} (hw : ∀ x, (we x).1 = (wt x).toNat) {a : Nat} (ha : 1 ≤ a) {q : Nat} (hq : q ≤ a * a) (he : ∀ c (e : Nat), (a : Int) * c = e + q → (we (a, a, c)).2 = e) (B : Nat) :
    val B ((last a).map we) = 4 * B ^ (a * a - q) + 12 * (B ^ (a * (a + 1) - q) * SS B a) := by
  have hq2 : q ≤ a * (a + 1) := by rw [Nat.mul_add]; omega
  unfold last
  rw [List.map_cons, map_geo hw hq2 he, val, val_geo, hw, wt_4 (by omega), he _ _ (expoS hq)]
theorem val_zero {a : Nat} (B : Nat) : val B ((((a : Int), 0, (a : Int)) :: geoT a 0 (a + 1) (mm a)).map we0) = 6 * B ^ (a * a) + 12 * (B ^ (a * (a + 1)) * SS B a) := by
  have he : ∀ c (e : Nat), (a : Int) * c = e + (0 : Nat) → (we0 (a, 0, c)).2 = e := fun c e h => we0_e h (by simp)
  rw [List.map_cons, map_geo (fun _ => rfl) (Nat.zero_le _) he, val, val_geo, show (we0 ((a : Int), 0, (a : Int))).1 = 6 from wt_6, he _ (a * a) (by simp)]
  simp

theorem sm_lin (f g : Nat → Nat) (c d S : Nat) : ∀ K, sm (fun j => c * f j + d * (g j * S)) K = c * sm f K + d * (sm g K * S)
  | 0 => by simp [sm]
  | K + 1 => by simp only [sm, sm_lin f g c d S K]; grind
theorem sq_step (K : Nat) : (K + 1) * (K + 1) = K * K + (2 * K + 1) := by grind
theorem ps0_sm {M : Nat} : ∀ K : Nat, K * K ≤ M → sm (fun j => BB ^ (M - j * j)) K = BB ^ (M - K * K) * ps0 K
  | 0, _ => by simp [sm, ps0]
  | K + 1, h => by
    have e := sq_step K
    simp only [sm]
    rw [ps0_sm K (by omega), ps0, show M - K * K = (M - (K + 1) * (K + 1)) + (2 * K + 1) by omega]
    generalize M - (K + 1) * (K + 1) = t
    rw [Nat.pow_add, Nat.mul_add, Nat.mul_assoc, Nat.mul_one]
theorem sq_le_self (K : Nat) : K ≤ K * K := by
  cases K with
  | zero => simp
  | succ n => exact Nat.le_mul_of_pos_left _ (by omega)
theorem ps1_sm {M : Nat} : ∀ K : Nat, K * K - K ≤ M → sm (fun j => BB ^ (M - (j * j - j))) K = BB ^ (M - (K * K - K)) * ps1 K
  | 0, _ => by simp [sm, ps1]
  | K + 1, h => by
    have e := sq_step K
    have e2 := sq_le_self K
    simp only [sm]
    rw [ps1_sm K (by omega), ps1, show M - (K * K - K) = (M - ((K + 1) * (K + 1) - (K + 1))) + (2 * K) by omega]
    generalize M - ((K + 1) * (K + 1) - (K + 1)) = t
    rw [Nat.pow_add, Nat.mul_add, Nat.mul_assoc, Nat.mul_one]

theorem half_sq {a K : Nat} (h : K ≤ a) : K * K ≤ a * a := Nat.mul_self_le_mul_self h
theorem gS_q {a : Nat} (ha : 1 ≤ a) : SS BB a = gSq (BB ^ a) (16384 / a) := by
  unfold SS gSq mm
  refine gS_div ?_ _
  have : BB ^ 1 ≤ BB ^ a := Nat.pow_le_pow_right (by decide) ha
  have e : BB ^ 1 = 281474976710656 := by decide
  omega

theorem nbeq {a b : Nat} (h : ¬ a = b) : Nat.beq a b = false := by
  cases hq : Nat.beq a b
  · rfl
  · exact absurd (Nat.eq_of_beq_eq_true hq) h
theorem val_blk0 {a : Nat} (ha : 1 ≤ a) : val BB ((blk0 a).map we0) = vb0 a (gSq (BB ^ a) (16384 / a)) ((a - 1) / 2) (ps0 ((a - 1) / 2)) := by
  unfold blk0 vb0
  rw [← gS_q ha, List.map_append, List.map_append, val_append, val_append, val_zero, map_rows, val_rows]
  have hK : (a - 1) / 2 ≤ a := by omega
  have hM := half_sq hK
  have hM2 : a * (a + 1) = a * a + a := by grind
  have e1 : sm (fun j : Nat => val BB ((pair a (2 * j)).map we0)) ((a - 1) / 2) = 12 * (BB ^ (a * a - (a - 1) / 2 * ((a - 1) / 2)) * ps0 ((a - 1) / 2)) + 24 * (BB ^ (a * (a + 1) - (a - 1) / 2 * ((a - 1) / 2)) * ps0 ((a - 1) / 2) * SS BB a) := by
    rw [sm_congr (g := fun j => 12 * BB ^ (a * a - j * j) + 24 * (BB ^ (a * (a + 1) - j * j) * SS BB a)) _ (fun j h1 h2 => ?_), sm_lin, ps0_sm _ hM, ps0_sm _ (by omega)]
    have e : (2 * (j : Int)) * (2 * (j : Int)) = 4 * ((j * j : Nat) : Int) := by simp; grind
    have e' : (-(2 * (j : Int))) * (-(2 * (j : Int))) = 4 * ((j * j : Nat) : Int) := by simp; grind
    exact val_pair (fun _ => rfl) (by omega) (by omega) (half_sq (by omega)) (fun c x h => ⟨we0_e h e, we0_e h e'⟩) BB
  have e2 : val BB ((if a % 2 = 0 then last a else []).map we0) = (bif Nat.beq (a % 2) 0 then 4 * BB ^ (a * a - a / 2 * (a / 2)) + 12 * (BB ^ (a * (a + 1) - a / 2 * (a / 2)) * SS BB a) else 0) := by
    by_cases h : a % 2 = 0
    · rw [if_pos h, h]
      have e : (a : Int) * a = 4 * ((a / 2 * (a / 2) : Nat) : Int) := by
        have h1 : a = 2 * (a / 2) := by omega
        generalize a / 2 = k at h1
        subst h1; simp; grind
      exact val_last (fun _ => rfl) ha (half_sq (by omega)) (fun c x hx => we0_e hx e) BB
    · rw [if_neg h, nbeq h]; rfl
  rw [e1, e2]
  omega
theorem val_blk1 {a : Nat} (ha : 1 ≤ a) : val BB ((blk1 a).map we1) = vb1 a (gSq (BB ^ a) (16384 / a)) (a / 2) (ps1 (a / 2)) := by
  unfold blk1 vb1
  rw [← gS_q ha, List.map_append, val_append, map_rows, val_rows]
  have hK : a / 2 ≤ a := by omega
  have hM := half_sq hK
  have hM2 : a * (a + 1) = a * a + a := by grind
  have odd : ∀ j : Nat, 1 ≤ j → (2 * (j : Int) - 1) * (2 * (j : Int) - 1) = 4 * ((j * j - j : Nat) : Int) + 1 := fun j hj => by
    have := sq_le_self j
    have h2 : ((j * j : Nat) : Int) = (j : Int) * j := by simp
    have h3 : ((j * j - j : Nat) : Int) = (j : Int) * j - j := by omega
    rw [h3]; grind
  have e1 : sm (fun j : Nat => val BB ((pair a (2 * j - 1)).map we1)) (a / 2) = 12 * (BB ^ (a * a - (a / 2 * (a / 2) - a / 2)) * ps1 (a / 2)) + 24 * (BB ^ (a * (a + 1) - (a / 2 * (a / 2) - a / 2)) * ps1 (a / 2) * SS BB a) := by
    rw [sm_congr (g := fun j => 12 * BB ^ (a * a - (j * j - j)) + 24 * (BB ^ (a * (a + 1) - (j * j - j)) * SS BB a)) _ (fun j h1 h2 => ?_), sm_lin, ps1_sm _ (by omega), ps1_sm _ (by omega)]
    have hj := half_sq (show j ≤ a by omega)
    have e := odd j h1
    have e' : (-(2 * (j : Int) - 1)) * (-(2 * (j : Int) - 1)) = 4 * ((j * j - j : Nat) : Int) + 1 := by rw [← e]; grind
    exact val_pair (fun _ => rfl) (by omega) (by omega) (by omega) (fun c x h => ⟨we1_e h e, we1_e h e'⟩) BB
  have e2 : val BB ((if a % 2 = 1 then last a else []).map we1) = (bif Nat.beq (a % 2) 1 then 4 * BB ^ (a * a - ((a + 1) / 2 * ((a + 1) / 2) - (a + 1) / 2)) + 12 * (BB ^ (a * (a + 1) - ((a + 1) / 2 * ((a + 1) / 2) - (a + 1) / 2)) * SS BB a) else 0) := by
    by_cases h : a % 2 = 1
    · rw [if_pos h, h]
      have hj := half_sq (show (a + 1) / 2 ≤ a by omega)
      have e : (a : Int) * a = 4 * (((a + 1) / 2 * ((a + 1) / 2) - (a + 1) / 2 : Nat) : Int) + 1 := by
        rw [← odd ((a + 1) / 2) (by omega)]
        have : (a : Int) = 2 * (((a + 1) / 2 : Nat) : Int) - 1 := by omega
        rw [← this]
      exact val_last (fun _ => rfl) ha (by omega) (fun c x hx => we1_e hx e) BB
    · rw [if_neg h, nbeq h]; rfl
  rw [e1, e2]

theorem val_T0 : ∀ n, val BB ((rows blk0 n).map we0) = vE0 n
  | 0 => rfl
  | n + 1 => by
    simp only [rows, List.map_append, val_append, val_T0 n, vE0]
    rw [val_blk0 (by omega), Nat.add_sub_cancel]
theorem val_T1 : ∀ n, val BB ((rows blk1 n).map we1) = vE1 n
  | 0 => rfl
  | n + 1 => by
    simp only [rows, List.map_append, val_append, val_T1 n, vE1]
    rw [val_blk1 (by omega)]

/- The other lists -/
def H0 (h : Nat) : List WE := rows (fun s => [(2, s * s)]) h
def H1 (h : Nat) : List WE := rows (fun s => [(2, s * s - s)]) h
def Dl (h : Nat) : List WE := rows (fun d => (12 * d, d * d) :: ag (24 * (d + 1)) 24 (d * (d + 1)) d (mm d)) h
theorem val_H0 : ∀ n, val BB (rows (fun s => [(2, s * s)]) n) = vT0 n
  | 0 => rfl
  | n + 1 => by rw [rows, val_append, val_H0 n, vT0, val, val, Nat.add_zero]
theorem val_H1 : ∀ n, val BB (rows (fun s => [(2, s * s - s)]) n) = vT1 n
  | 0 => rfl
  | n + 1 => by rw [rows, val_append, val_H1 n, vT1, val, val, Nat.add_zero]
theorem val_Dl : ∀ n, val BB (rows (fun d => (12 * d, d * d) :: ag (24 * (d + 1)) 24 (d * (d + 1)) d (mm d)) n) = vD n
  | 0 => rfl
  | n + 1 => by
    have h2 : 2 ≤ BB ^ (n + 1) := by
      have : BB ^ 1 ≤ BB ^ (n + 1) := Nat.pow_le_pow_right (by decide) (by omega)
      have e : BB ^ 1 = 281474976710656 := by decide
      omega
    rw [rows, val_append, val_Dl n, vD, val, val_ag, gT_div h2, gS_div h2]
    rfl

def LL (p h : Nat) : List WE := mul ((T0 p).map we0) ((1, 0) :: H0 h) ++ mul ((T1 p).map we1) (H1 h)
def RR (h : Nat) : List WE := Dl h ++ H0 h
theorem val_LL (p h k : Nat) : val BB (LL p h) % BB ^ k = vL p h k := by
  unfold LL T0 T1 H0 H1
  rw [val_append, val_mul, val_mul, val, val_T0, val_T1, val_H0, val_H1, Nat.pow_zero, Nat.mul_one]
  rfl
theorem val_RR (h k : Nat) : val BB (RR h) % BB ^ k = vR h k := by
  unfold RR Dl H0
  rw [val_append, val_Dl, val_H0]
  rfl

/- Bounds -/
theorem val1_le {W : Nat} : ∀ l : List WE, (∀ p ∈ l, p.1 ≤ W) → val 1 l ≤ l.length * W
  | [], _ => by simp [val]
  | p :: r, h => by
    have h1 := val1_le r (fun q hq => h q (List.mem_cons_of_mem _ hq))
    have h2 := h p (by simp)
    simp only [val, Nat.one_pow, Nat.mul_one, List.length_cons, Nat.add_mul, Nat.one_mul]
    omega
theorem length_rows {α : Type} (f : Nat → List α) {K : Nat} : ∀ n, (∀ i, 1 ≤ i → i ≤ n → (f i).length ≤ K) → (rows f n).length ≤ n * K
  | 0, _ => by simp [rows]
  | n + 1, h => by
    have h1 := length_rows f n (fun i a b => h i a (by omega))
    have h2 := h (n + 1) (by omega) (by omega)
    simp only [rows, List.length_append, Nat.add_mul, Nat.one_mul]; omega
theorem mm_le (a : Nat) : mm a ≤ 16384 := Nat.div_le_self _ _
theorem len_pair (a : Nat) (b : Int) : (pair a b).length ≤ 32771 := by
  have := mm_le a
  simp only [pair, List.length_append, List.length_cons, length_geoT]; omega
theorem len_last (a : Nat) : (last a).length ≤ 32771 := by
  have := mm_le a
  simp only [last, List.length_cons, length_geoT]; omega
theorem len_blk0 {a : Nat} (ha : a ≤ 147) : (blk0 a).length ≤ 2457825 := by
  have h1 := mm_le a
  have h2 := length_rows (fun j : Nat => pair a (2 * j)) ((a - 1) / 2) (K := 32771) (fun i _ _ => len_pair a _)
  have h3 := len_last a
  have h4 : (a - 1) / 2 * 32771 ≤ 73 * 32771 := Nat.mul_le_mul_right _ (by omega)
  simp only [blk0, List.length_append, List.length_cons, length_geoT]
  split
  · omega
  · simp only [List.length_nil]; omega
theorem len_blk1 {a : Nat} (ha : a ≤ 147) : (blk1 a).length ≤ 2457825 := by
  have h1 := mm_le a
  have h2 := length_rows (fun j : Nat => pair a (2 * j - 1)) (a / 2) (K := 32771) (fun i _ _ => len_pair a _)
  have h3 := len_last a
  have h4 : a / 2 * 32771 ≤ 73 * 32771 := Nat.mul_le_mul_right _ (by omega)
  simp only [blk1, List.length_append]
  split
  · omega
  · simp only [List.length_nil]; omega
theorem v1_T {we : R3 → WE} (hw : ∀ x, (we x).1 = (wt x).toNat) {f : Nat → List R3} (hf : ∀ a, a ≤ 147 → (f a).length ≤ 2457825) {p : Nat} (hp : p ≤ 147) : val 1 ((rows f p).map we) ≤ 4335603300 := by
  have h := val1_le (W := 12) ((rows f p).map we) (fun q hq => by
    obtain ⟨x, _, rfl⟩ := List.mem_map.1 hq
    rw [hw]; have := wt_bd x; omega)
  have h2 := length_rows f p (fun i _ hi => hf i (by omega))
  have h3 : p * 2457825 ≤ 147 * 2457825 := Nat.mul_le_mul_right _ hp
  rw [List.length_map] at h
  omega
theorem ag_le {w d e s : Nat} : ∀ m, (∀ p ∈ ag w d e s m, p.1 ≤ w + d * m) ∧ (ag w d e s m).length = m + 1
  | 0 => by simp [ag]
  | m + 1 => by
    obtain ⟨h1, h2⟩ := ag_le (w := w) (d := d) (e := e) (s := s) m
    refine ⟨fun p hp => ?_, by simp [ag, h2]⟩
    simp only [ag, List.mem_append, List.mem_singleton] at hp
    rcases hp with hp | rfl
    · have := h1 p hp
      rw [Nat.mul_add]; omega
    · exact Nat.le_refl _
theorem v1_D {h : Nat} (hh : h ≤ 128) : val 1 (Dl h) ≤ 1000000000000 := by
  have k := val1_le (W := 400000) (Dl h) (fun p hp => by
    obtain ⟨d, h1, h2, h3⟩ := mem_rows.1 hp
    rcases List.mem_cons.1 h3 with rfl | h3
    · show 12 * d ≤ 400000; omega
    · have := (ag_le (mm d)).1 p h3
      have := mm_le d
      omega)
  have h2 : (Dl h).length ≤ h * 16386 := length_rows _ h (fun i _ hi => by
    simp only [List.length_cons, (ag_le (mm i)).2]
    have := mm_le i; omega)
  omega
theorem v1_H (g : Nat → Nat) : ∀ n, val 1 (rows (fun s => [(2, g s)]) n) = 2 * n
  | 0 => rfl
  | n + 1 => by
    rw [rows, val_append, v1_H g n, val, val, Nat.one_pow]
    show 2 * n + (2 * 1 + 0) = _
    omega
theorem bound {a b c d : Nat} (h1 : a ≤ 4335603300) (h2 : b ≤ 4335603300) (h3 : c ≤ 256) (h4 : d ≤ 256) : a * (1 + c) + b * d < BB := by
  have b1 := Nat.mul_le_mul h1 (show 1 + c ≤ 257 by omega)
  have b2 := Nat.mul_le_mul h2 h4
  unfold BB
  omega
theorem co_LR {p h : Nat} (hp : p = 147) (hh : h = 128) {n : Nat} (hn : n ≤ 16384) : co n (LL p h) = co n (RR h) := by
  have hv : val BB (LL p h) % BB ^ (16384 + 1) = val BB (RR h) % BB ^ (16384 + 1) := by
    generalize hk : 16384 + 1 = k
    rw [val_LL, val_RR, vL_eq hp hh (by omega)]
  refine Ser.one (B := BB) 16384 (LL p h) (RR h) (fun k hk => ⟨?_, ?_⟩) hv n hn
  · refine Nat.lt_of_le_of_lt (co_le k (LL p h)) ?_
    unfold LL H0 H1
    rw [val_append, val_mul, val_mul, val, Nat.one_pow, Nat.mul_one, v1_H, v1_H]
    exact bound (v1_T (we := we0) (f := blk0) (p := p) (fun _ => rfl) (fun a h => len_blk0 h) (by omega)) (v1_T (we := we1) (f := blk1) (p := p) (fun _ => rfl) (fun a h => len_blk1 h) (by omega)) (by omega) (by omega)
  · refine Nat.lt_of_le_of_lt (co_le k (RR h)) ?_
    unfold RR H0
    rw [val_append, v1_H]
    have a1 := v1_D (h := h) (by omega)
    unfold BB
    omega
end Go.Proofs.Ytifnooogklfifaa.Cls
