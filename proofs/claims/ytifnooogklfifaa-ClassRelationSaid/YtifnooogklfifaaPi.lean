-- Plain laws of the row law11: all reduced forms up to a bound as one list, and its series (no program in sight).
import Derived.Test.YtifnooogklfifaaPh
import Derived.Test.YtifnooogklfifaaMb
namespace Go.Proofs.Ytifnooogklfifaa.Cls
open Go Go.Proofs.Ytifnooogklfifaa.Ev Go.Proofs.Ytifnooogklfifaa.Ser
set_option linter.unusedVariables false
set_option linter.unusedSimpArgs false

def geoT (a b c : Int) : Nat → List R3
  | 0 => [(a, b, c)]
  | m + 1 => geoT a b c m ++ [(a, b, c + (m + 1))]
theorem mem_geoT {a b c : Int} {x : R3} : ∀ {m : Nat}, x ∈ geoT a b c m ↔ ∃ j : Nat, j ≤ m ∧ x = (a, b, c + j)
  | 0 => by
    simp only [geoT, List.mem_singleton]
    constructor
    · rintro rfl; exact ⟨0, Nat.le_refl _, by simp⟩
    · rintro ⟨j, h, rfl⟩
      obtain rfl : j = 0 := by omega
      simp
  | m + 1 => by
    simp only [geoT, List.mem_append, List.mem_singleton, mem_geoT (m := m)]
    constructor
    · rintro (⟨j, h, rfl⟩ | rfl)
      · exact ⟨j, by omega, rfl⟩
      · exact ⟨m + 1, by omega, by simp⟩
    · rintro ⟨j, h, rfl⟩
      by_cases hj : j = m + 1
      · subst hj; exact .inr (by simp)
      · exact .inl ⟨j, by omega, rfl⟩
theorem nodup_geoT (a b c : Int) : ∀ m, (geoT a b c m).Nodup
  | 0 => by simp [geoT]
  | m + 1 => by
    refine List.nodup_append.2 ⟨nodup_geoT a b c m, by simp, fun x hx y hy => ?_⟩
    simp only [List.mem_singleton] at hy
    obtain ⟨j, h1, rfl⟩ := mem_geoT.1 hx
    subst hy
    intro h
    have := congrArg (fun z : R3 => z.2.2) h
    simp only at this
    omega
theorem length_geoT (a b c : Int) : ∀ m, (geoT a b c m).length = m + 1
  | 0 => rfl
  | m + 1 => by simp [geoT, length_geoT a b c m]

def mm (a : Nat) : Nat := 16384 / a
/-- The forms of a first part, a middle part b or -b. -/
def pair (a : Nat) (b : Int) : List R3 := (((a : Int), b, (a : Int)) :: geoT a b (a + 1) (mm a)) ++ geoT a (-b) (a + 1) (mm a)
def last (a : Nat) : List R3 := ((a : Int), (a : Int), (a : Int)) :: geoT a a (a + 1) (mm a)
def blk0 (a : Nat) : List R3 := (((a : Int), 0, (a : Int)) :: geoT a 0 (a + 1) (mm a)) ++ (rows (fun j => pair a (2 * j)) ((a - 1) / 2) ++ (if a % 2 = 0 then last a else []))
def blk1 (a : Nat) : List R3 := rows (fun j => pair a (2 * j - 1)) (a / 2) ++ (if a % 2 = 1 then last a else [])

def Ok (a : Nat) (x : R3) : Prop := x.1 = a ∧ -x.1 < x.2.1 ∧ x.2.1 ≤ x.1 ∧ (x.1 < x.2.2 ∨ (x.1 = x.2.2 ∧ 0 ≤ x.2.1)) ∧ x.2.2 ≤ a + 1 + mm a
theorem mem_pair {a : Nat} {b : Int} (hb : 0 < b) (hba : b < a) {x : R3} : x ∈ pair a b ↔ Ok a x ∧ (x.2.1 = b ∨ x.2.1 = -b) := by
  obtain ⟨p, q, r⟩ := x
  unfold pair Ok
  simp only [List.mem_append, List.mem_cons, mem_geoT, Prod.mk.injEq]
  constructor
  · rintro ((⟨rfl, rfl, rfl⟩ | ⟨j, h, rfl, rfl, rfl⟩) | ⟨j, h, rfl, rfl, rfl⟩) <;> omega
  · rintro ⟨⟨rfl, h1, h2, h3, h4⟩, rfl | rfl⟩
    · by_cases h : r = a
      · exact .inl (.inl ⟨rfl, rfl, h⟩)
      · exact .inl (.inr ⟨(r - (a + 1)).toNat, by omega, rfl, rfl, by omega⟩)
    · exact .inr ⟨(r - (a + 1)).toNat, by omega, rfl, rfl, by omega⟩
theorem mem_last {a : Nat} (ha : 1 ≤ a) {x : R3} : x ∈ last a ↔ Ok a x ∧ x.2.1 = a := by
  obtain ⟨p, q, r⟩ := x
  unfold last Ok
  simp only [List.mem_cons, mem_geoT, Prod.mk.injEq]
  constructor
  · rintro (⟨rfl, rfl, rfl⟩ | ⟨j, h, rfl, rfl, rfl⟩) <;> omega
  · rintro ⟨⟨rfl, h1, h2, h3, h4⟩, rfl⟩
    by_cases h : r = a
    · exact .inl ⟨rfl, rfl, h⟩
    · exact .inr ⟨(r - (a + 1)).toNat, by omega, rfl, rfl, by omega⟩
theorem mem_blk0 {a : Nat} (ha : 1 ≤ a) {x : R3} : x ∈ blk0 a ↔ Ok a x ∧ x.2.1 % 2 = 0 := by
  unfold blk0
  simp only [List.mem_append, mem_rows]
  constructor
  · rintro (h | ⟨j, h1, h2, h3⟩ | h)
    · obtain ⟨p, q, r⟩ := x
      simp only [List.mem_cons, mem_geoT, Prod.mk.injEq] at h
      unfold Ok
      rcases h with ⟨rfl, rfl, rfl⟩ | ⟨j, h, rfl, rfl, rfl⟩
      · exact ⟨⟨rfl, show -(a : Int) < 0 by omega, show (0 : Int) ≤ a by omega, .inr ⟨rfl, Int.le_refl 0⟩, show (a : Int) ≤ a + 1 + mm a by omega⟩, rfl⟩
      · exact ⟨⟨rfl, show -(a : Int) < 0 by omega, show (0 : Int) ≤ a by omega, .inl (show (a : Int) < a + 1 + j by omega), show (a : Int) + 1 + j ≤ a + 1 + mm a by omega⟩, rfl⟩
    · obtain ⟨h4, h5⟩ := (mem_pair (by omega) (by omega)).1 h3
      exact ⟨h4, by omega⟩
    · split at h
      · obtain ⟨h4, h5⟩ := (mem_last ha).1 h
        exact ⟨h4, by omega⟩
      · simp at h
  · rintro ⟨h, h2⟩
    by_cases hz : x.2.1 = 0
    · refine .inl ?_
      obtain ⟨p, q, r⟩ := x
      unfold Ok at h
      obtain ⟨rfl, h3, h4, h5, h6⟩ := h
      simp only at hz h3 h4 h5 h6
      subst hz
      simp only [List.mem_cons, mem_geoT, Prod.mk.injEq, true_and]
      by_cases hr : r = a
      · exact .inl hr
      · exact .inr ⟨(r - (a + 1)).toNat, by omega, by omega⟩
    · by_cases hl : x.2.1 = a
      · refine .inr (.inr ?_)
        rw [if_pos (by omega)]
        exact (mem_last ha).2 ⟨h, hl⟩
      · have hk := h
        unfold Ok at hk
        obtain ⟨k1, k2, k3, k4, k5⟩ := hk
        refine .inr (.inl ⟨(x.2.1.natAbs) / 2, by omega, by omega, (mem_pair (by omega) (by omega)).2 ⟨h, by omega⟩⟩)
theorem mem_blk1 {a : Nat} (ha : 1 ≤ a) {x : R3} : x ∈ blk1 a ↔ Ok a x ∧ x.2.1 % 2 = 1 := by
  unfold blk1
  simp only [List.mem_append, mem_rows]
  constructor
  · rintro (⟨j, h1, h2, h3⟩ | h)
    · obtain ⟨h4, h5⟩ := (mem_pair (by omega) (by omega)).1 h3
      exact ⟨h4, by omega⟩
    · split at h
      · obtain ⟨h4, h5⟩ := (mem_last ha).1 h
        exact ⟨h4, by omega⟩
      · simp at h
  · rintro ⟨h, h2⟩
    by_cases hl : x.2.1 = a
    · refine .inr ?_
      rw [if_pos (by omega)]
      exact (mem_last ha).2 ⟨h, hl⟩
    · have hk := h
      unfold Ok at hk
      obtain ⟨k1, k2, k3, k4, k5⟩ := hk
      refine .inl ⟨(x.2.1.natAbs + 1) / 2, by omega, by omega, (mem_pair (by omega) (by omega)).2 ⟨h, by omega⟩⟩

theorem nodup_pair {a : Nat} {b : Int} (hb : 0 < b) : (pair a b).Nodup := by
  unfold pair
  refine List.nodup_append.2 ⟨List.nodup_cons.2 ⟨fun h => ?_, nodup_geoT _ _ _ _⟩, nodup_geoT _ _ _ _, fun x hx y hy => ?_⟩
  · obtain ⟨j, _, h⟩ := mem_geoT.1 h
    have := congrArg (fun z : R3 => z.2.2) h
    simp only at this; omega
  · rintro rfl
    obtain ⟨j, _, rfl⟩ := mem_geoT.1 hy
    rcases List.mem_cons.1 hx with h | h
    · have := congrArg (fun z : R3 => z.2.1) h
      simp only at this; omega
    · obtain ⟨i, _, h⟩ := mem_geoT.1 h
      have := congrArg (fun z : R3 => z.2.1) h
      simp only at this; omega
theorem nodup_head (a : Nat) (b : Int) : (((a : Int), b, (a : Int)) :: geoT a b (a + 1) (mm a)).Nodup := by
  refine List.nodup_cons.2 ⟨fun h => ?_, nodup_geoT _ _ _ _⟩
  obtain ⟨j, _, h⟩ := mem_geoT.1 h
  have := congrArg (fun z : R3 => z.2.2) h
  simp only at this; omega
theorem pair_b {a : Nat} {b : Int} {x : R3} (h : x ∈ pair a b) : x.2.1 = b ∨ x.2.1 = -b := by
  unfold pair at h
  simp only [List.mem_append, List.mem_cons, mem_geoT] at h
  rcases h with (rfl | ⟨j, _, rfl⟩) | ⟨j, _, rfl⟩ <;> simp
theorem last_b {a : Nat} {x : R3} (h : x ∈ last a) : x.2.1 = a := by
  unfold last at h
  simp only [List.mem_cons, mem_geoT] at h
  rcases h with rfl | ⟨j, _, rfl⟩ <;> rfl
theorem nodup_blk0 {a : Nat} (ha : 1 ≤ a) : (blk0 a).Nodup := by
  unfold blk0
  have hr : (rows (fun j : Nat => pair a (2 * j)) ((a - 1) / 2)).Nodup := by
    suffices ∀ n, (rows (fun j : Nat => pair a (2 * j)) n).Nodup from this _
    intro n
    induction n with
    | zero => exact .nil
    | succ n ih =>
      refine List.nodup_append.2 ⟨ih, nodup_pair (by omega), fun x hx y hy => ?_⟩
      rintro rfl
      obtain ⟨i, h1, h2, h3⟩ := mem_rows.1 hx
      have := pair_b h3; have := pair_b hy
      omega
  have hl : (if a % 2 = 0 then last a else []).Nodup := by split; exact nodup_head a a; exact .nil
  refine List.nodup_append.2 ⟨nodup_head a 0, List.nodup_append.2 ⟨hr, hl, fun x hx y hy => ?_⟩, fun x hx y hy => ?_⟩
  · rintro rfl
    obtain ⟨i, h1, h2, h3⟩ := mem_rows.1 hx
    split at hy
    · have := pair_b h3; have := last_b hy
      omega
    · simp at hy
  · rintro rfl
    have hz : x.2.1 = 0 := by
      simp only [List.mem_cons, mem_geoT] at hx
      rcases hx with rfl | ⟨j, _, rfl⟩ <;> rfl
    rcases List.mem_append.1 hy with hy | hy
    · obtain ⟨i, h1, h2, h3⟩ := mem_rows.1 hy
      have := pair_b h3; omega
    · split at hy
      · have := last_b hy; omega
      · simp at hy
theorem nodup_blk1 {a : Nat} (ha : 1 ≤ a) : (blk1 a).Nodup := by
  unfold blk1
  have hr : (rows (fun j : Nat => pair a (2 * j - 1)) (a / 2)).Nodup := by
    suffices ∀ n, (rows (fun j : Nat => pair a (2 * j - 1)) n).Nodup from this _
    intro n
    induction n with
    | zero => exact .nil
    | succ n ih =>
      refine List.nodup_append.2 ⟨ih, nodup_pair (by omega), fun x hx y hy => ?_⟩
      rintro rfl
      obtain ⟨i, h1, h2, h3⟩ := mem_rows.1 hx
      have := pair_b h3; have := pair_b hy
      omega
  have hl : (if a % 2 = 1 then last a else []).Nodup := by split; exact nodup_head a a; exact .nil
  refine List.nodup_append.2 ⟨hr, hl, fun x hx y hy => ?_⟩
  rintro rfl
  obtain ⟨i, h1, h2, h3⟩ := mem_rows.1 hx
  split at hy
  · have := pair_b h3; have := last_b hy
    omega
  · simp at hy

def T0 (p : Nat) : List R3 := rows blk0 p
def T1 (p : Nat) : List R3 := rows blk1 p
theorem mem_T0 {p : Nat} {x : R3} : x ∈ T0 p ↔ ∃ a, 1 ≤ a ∧ a ≤ p ∧ Ok a x ∧ x.2.1 % 2 = 0 := by
  unfold T0
  rw [mem_rows]
  constructor
  · rintro ⟨a, h1, h2, h3⟩; exact ⟨a, h1, h2, (mem_blk0 h1).1 h3⟩
  · rintro ⟨a, h1, h2, h3⟩; exact ⟨a, h1, h2, (mem_blk0 h1).2 h3⟩
theorem mem_T1 {p : Nat} {x : R3} : x ∈ T1 p ↔ ∃ a, 1 ≤ a ∧ a ≤ p ∧ Ok a x ∧ x.2.1 % 2 = 1 := by
  unfold T1
  rw [mem_rows]
  constructor
  · rintro ⟨a, h1, h2, h3⟩; exact ⟨a, h1, h2, (mem_blk1 h1).1 h3⟩
  · rintro ⟨a, h1, h2, h3⟩; exact ⟨a, h1, h2, (mem_blk1 h1).2 h3⟩
theorem nodup_T {f : Nat → List R3} (hm : ∀ a x, 1 ≤ a → x ∈ f a → x.1 = a) (hf : ∀ a, 1 ≤ a → (f a).Nodup) : ∀ n, (rows f n).Nodup
  | 0 => .nil
  | n + 1 => by
    refine List.nodup_append.2 ⟨nodup_T hm hf n, hf (n + 1) (by omega), fun x hx y hy => ?_⟩
    rintro rfl
    obtain ⟨i, h1, h2, h3⟩ := mem_rows.1 hx
    have a := hm i x h1 h3
    have b := hm (n + 1) x (by omega) hy
    omega
theorem nodup_T0 (p : Nat) : (T0 p).Nodup := nodup_T (fun a x h1 h2 => ((mem_blk0 h1).1 h2).1.1) (fun a h => nodup_blk0 h) p
theorem nodup_T1 (p : Nat) : (T1 p).Nodup := nodup_T (fun a x h1 h2 => ((mem_blk1 h1).1 h2).1.1) (fun a h => nodup_blk1 h) p

def we0 (x : R3) : WE := ((wt x).toNat, ((4 * x.1 * x.2.2 - x.2.1 * x.2.1) / 4).toNat)
def we1 (x : R3) : WE := ((wt x).toNat, ((4 * x.1 * x.2.2 - x.2.1 * x.2.1 + 1) / 4).toNat)
theorem co_map (we : R3 → WE) (h : ∀ x, (we x).1 = (wt x).toNat) (u : Nat) : ∀ l : List R3, (co u (l.map we) : Int) = wsum (l.filter fun x => (we x).2 == u)
  | [] => rfl
  | x :: r => by
    have ih := co_map we h u r
    have hb := wt_bd x
    simp only [List.map_cons, co]
    by_cases hx : (we x).2 = u
    · rw [if_pos hx, List.filter_cons_of_pos (by simpa using hx), h]
      simp only [wsum]; omega
    · rw [if_neg hx, List.filter_cons_of_neg (by simpa using hx)]; omega

theorem ok_pos {a : Nat} (ha : 1 ≤ a) {x : R3} (h : Ok a x) : 0 < 4 * x.1 * x.2.2 - x.2.1 * x.2.1 := by
  obtain ⟨h1, h2, h3, h4, h5⟩ := h
  have k1 := sq_abs_le (show -x.1 ≤ x.2.1 by omega) h3
  have k2 := Int.mul_le_mul_of_nonneg_left (show x.1 ≤ x.2.2 by omega) (show 0 ≤ x.1 by omega)
  have k3 := Int.mul_pos (show 0 < x.1 by omega) (show 0 < x.1 by omega)
  have e : 4 * x.1 * x.2.2 = 4 * (x.1 * x.2.2) := by grind
  omega
theorem ok_rd {a : Nat} (ha : 1 ≤ a) {x : R3} (h : Ok a x) {d : Int} (hd : 4 * x.1 * x.2.2 - x.2.1 * x.2.1 = -d) : Rd d x.1 x.2.1 x.2.2 := by
  obtain ⟨h1, h2, h3, h4, h5⟩ := h
  exact ⟨by omega, by omega, h2, h3, h4⟩
theorem rd_ok {d : Int} (hd : -65536 ≤ d) {x : R3} (h : Rd d x.1 x.2.1 x.2.2) : ∃ a : Nat, 1 ≤ a ∧ a ≤ 147 ∧ Ok a x := by
  have h1 := h.pos; have h2 := h.small hd; have h3 := h.lo; have h4 := h.hi; have h5 := h.last; have h6 := h.eq
  refine ⟨x.1.toNat, by omega, by omega, by omega, h3, h4, h5, ?_⟩
  have hq := sq_abs_le (show -x.1 ≤ x.2.1 by omega) h4
  have e : 4 * x.1 * x.2.2 = 4 * (x.1 * x.2.2) := by grind
  obtain ⟨n, hn⟩ := Int.eq_ofNat_of_zero_le (show 0 ≤ x.1 by omega)
  have hnn : x.1.toNat = n := by omega
  rw [hnn]
  unfold mm
  have e2 : x.1 * x.2.2 = (n : Int) * x.2.2 := by rw [hn]
  have e3 : x.1 * x.1 = (n : Int) * n := by rw [hn]
  have hd1 := Nat.div_add_mod 16384 n
  have hd2 := Nat.mod_lt 16384 (show n > 0 by omega)
  generalize 16384 / n = m at *
  generalize 16384 % n = t at *
  -- c ≤ n + 1 + m
  rcases Int.lt_or_le ((n : Int) + 1 + m) x.2.2 with hc | hc
  · have g1 := Int.mul_le_mul_of_nonneg_left (show (n : Int) + 2 + m ≤ x.2.2 by omega) (show 0 ≤ (n : Int) by omega)
    have g2 : (n : Int) * (n + 2 + m) = n * n + 2 * n + n * m := by grind
    have g3 : ((n * m : Nat) : Int) = (n : Int) * m := by simp
    have g4 := Int.mul_nonneg (show 0 ≤ (n : Int) by omega) (show 0 ≤ (n : Int) by omega)
    omega
  · omega

theorem even_sq {b : Int} (h : b % 2 = 0) : (b * b) % 4 = 0 := by
  have e2 : b = 2 * (b / 2) := by omega
  have e3 : b * b = 4 * ((b / 2) * (b / 2)) := by generalize b / 2 = q at *; subst e2; grind
  omega
theorem odd_sq {b : Int} (h : b % 2 = 1) : (b * b) % 4 = 1 := by
  have e2 : b = 2 * (b / 2) + 1 := by omega
  have e3 : b * b = 4 * ((b / 2) * (b / 2) + (b / 2)) + 1 := by generalize b / 2 = q at *; subst e2; grind
  omega

/-- The weighted number of a discriminant is a coefficient. -/
theorem co_T0 {p : Nat} (hp : p = 147) {u : Nat} (h0 : 1 ≤ u) (hu : u ≤ 16384) {R : List R3} (hR : Ris (Rd (-(4 * u))) R) : wsum R = (co u ((T0 p).map we0) : Int) := by
  rw [co_map we0 (fun _ => rfl) u (T0 p)]
  refine wsum_perm ((List.perm_ext_iff_of_nodup hR.nodup ((nodup_T0 p).filter _)).mpr fun x => ?_)
  rw [hR.mem, List.mem_filter, mem_T0]
  have e : 4 * x.1 * x.2.2 = 4 * (x.1 * x.2.2) := by grind
  constructor
  · intro h
    obtain ⟨a, h1, h2, h3⟩ := rd_ok (by omega) h
    have h4 := h.eq; have h5 := h.parity
    refine ⟨⟨a, h1, by omega, h3, by omega⟩, ?_⟩
    simp only [we0, beq_iff_eq]; omega
  · rintro ⟨⟨a, h1, h2, h3, h4⟩, h5⟩
    simp only [we0, beq_iff_eq] at h5
    have := ok_pos h1 h3
    have := even_sq h4
    exact ok_rd h1 h3 (by omega)
theorem co_T1 {p : Nat} (hp : p = 147) {u : Nat} (h0 : 1 ≤ u) (hu : u ≤ 16384) {R : List R3} (hR : Ris (Rd (-(4 * u - 1))) R) : wsum R = (co u ((T1 p).map we1) : Int) := by
  rw [co_map we1 (fun _ => rfl) u (T1 p)]
  refine wsum_perm ((List.perm_ext_iff_of_nodup hR.nodup ((nodup_T1 p).filter _)).mpr fun x => ?_)
  rw [hR.mem, List.mem_filter, mem_T1]
  have e : 4 * x.1 * x.2.2 = 4 * (x.1 * x.2.2) := by grind
  constructor
  · intro h
    obtain ⟨a, h1, h2, h3⟩ := rd_ok (by omega) h
    have h4 := h.eq; have h5 := h.parity
    refine ⟨⟨a, h1, by omega, h3, by omega⟩, ?_⟩
    simp only [we1, beq_iff_eq]; omega
  · rintro ⟨⟨a, h1, h2, h3, h4⟩, h5⟩
    simp only [we1, beq_iff_eq] at h5
    have := ok_pos h1 h3
    have := odd_sq h4
    exact ok_rd h1 h3 (by omega)
theorem co_T0_zero (p : Nat) : co 0 ((T0 p).map we0) = 0 := by
  have := co_map we0 (fun _ => rfl) 0 (T0 p)
  have h : (T0 p).filter (fun x => (we0 x).2 == 0) = [] := by
    rw [List.filter_eq_nil_iff]
    intro x hx
    obtain ⟨a, h1, h2, h3, h4⟩ := mem_T0.1 hx
    have := ok_pos h1 h3
    have := even_sq h4
    have e : 4 * x.1 * x.2.2 = 4 * (x.1 * x.2.2) := by grind
    simp only [we0, beq_iff_eq]; omega
  rw [h] at this
  simp only [wsum] at this
  omega
end Go.Proofs.Ytifnooogklfifaa.Cls
