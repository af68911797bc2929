-- Plain laws of the row law09: All, Principal and Proper of a small discriminant, told exactly.
import Derived.Test.YtlofhdoefjmabaaPn
namespace Go.Proofs.Ytlofhdoefjmabaa.Pure
open Go Go.Proofs.Ytlofhdoefjmabaa.Ev
set_option linter.unusedVariables false
set_option linter.unusedSimpArgs false

theorem root_small {d s : Int} (hd : Cross d s) (hs : d ≤ 65536) : 0 ≤ s ∧ s ≤ 256 := by
  have h0 := hd.root.s0
  refine ⟨h0, ?_⟩
  have lo := hd.root.lo
  have := sq_lt h0 (show (0 : Int) ≤ 257 by decide) (show s * s < 257 * 257 by omega)
  omega
theorem disc4 {d s a b c : Int} (hd : Cross d s) (h : Good d a b c) : d % 4 = 0 ∨ d % 4 = 1 := by
  have h1 := hd.d1
  have h2 := disc_mod h (by omega)
  rw [Int.tmod_eq_emod_of_nonneg (by omega)] at h2
  omega
theorem root_of {N : Nat} (hN : 8589934600 < N) {d s : Int} (hd : Cross d s) : cycle_root.f N d = some s := by
  obtain ⟨r, hr, r1, _⟩ := root_model hN hd.d1 hd.d2
  have := hr.unique hd.root
  subst this
  exact r1

theorem all_told {N : Nat} (hN : 8589934600 < N) {d s a b c : Int} (hd : Cross d s) (hg : Good d a b c) (hs : d ≤ 65536) : ∃ cs, Told d s cs ∧ (∀ x, PF d s x → InC s cs x) ∧ cycle_All.f N d = some (cyc s cs, 0) := by
  obtain ⟨s0, s1⟩ := root_small hd hs
  have h4 := disc4 hd hg
  have hd1 := hd.d1
  have t : Int.tmod d 2 = d % 2 := Int.tmod_eq_emod_of_nonneg (by omega)
  have w : wi64 (2 - Int.tmod d 2) = 2 - d % 2 := by rw [t, wi64_id (by omega) (by omega)]
  have hi := hd.root.hi
  have s2 : 1 ≤ s := by
    rcases Int.lt_or_le 0 s with h | h
    · omega
    · have : s = 0 := by omega
      subst this; omega
  obtain ⟨Y, y1, y2, y3, y4⟩ := all_out hN hd hs s1 N (2 - d % 2) [] (by omega) (by
    rcases (show d % 2 = 0 ∨ d % 2 = 1 by omega) with e | e
    · rw [e]; omega
    · rw [e]; omega) (by omega) (by omega) (by simp; omega)
  have hmem : ∀ x, x ∈ srt3 Y ↔ x ∈ Y := fun x => (srt3_perm Y).mem_iff
  have hlen := srt3_length Y
  obtain ⟨cs, c1, c2, c3⟩ := told_go hN hd hs (X := srt3 Y) (fun x hx => y1 x ((hmem x).mp hx)) (by omega) N 0 [] [] [] (by omega) (by omega) rfl ⟨by simp, by simp, by simp, List.Pairwise.nil⟩ (fun x => by
    constructor
    · intro h; cases h
    · rintro ⟨p, hp, _⟩; cases hp) (by simp)
  refine ⟨cs, c1, fun x hx => c2 x ((hmem x).mpr (y2 x hx ?_)), ?_⟩
  · have hr := hx.1.2.1
    have hdc := hx.1.1.disc
    rcases (show d % 2 = 0 ∨ d % 2 = 1 by omega) with e | e
    · rcases (show x.2.1 = 1 ∨ 2 ≤ x.2.1 by omega) with q | q
      · rw [q] at hdc
        have e2 : 4 * x.1 * x.2.2 = 4 * (x.1 * x.2.2) := by grind
        omega
      · omega
    · omega
  · unfold cycle_All.f
    rw [decide_eq_false (show ¬ d > 65536 by omega), cond_false, (cross_true hN hd hg).1, Option.bind_some, Bool.not_true, cond_false, root_of hN hd, Option.bind_some, w]
    have y4' := y4 (R := List (List Int) × Int) (fun y31 =>
      (slices_SortFunc___parquet_api_Binary_parquet_api_Binary_.f N y31).bind fun r32 =>
      cycle_All.l23 N N (r32.length / 3 : Int) 0 [] [] [] r32
        (fun y64 =>
          some (y64, 0)))
    have e0 : flat3 ([] : List T3) = [] := rfl
    rw [e0, List.nil_append] at y4'
    rw [y4']
    have hb : Nat.blt (flat3 Y).length 4611686018427387904 = true := by
      rw [flat3_length]
      exact Nat.ble_eq_true_of_le (show Y.length * 3 + 1 ≤ 4611686018427387904 by omega)
    have hsort : slices_SortFunc___parquet_api_Binary_parquet_api_Binary_.f N (flat3 Y) = some (flat3 (srt3 Y)) := by
      unfold slices_SortFunc___parquet_api_Binary_parquet_api_Binary_.f
      rw [hb, cond_true]
      unfold sort3
      rw [rows_flat3]
    rw [hsort, Option.bind_some]
    have el : ((flat3 (srt3 Y)).length / 3 : Int) = ((srt3 Y).length : Int) := by rw [flat3_length]; omega
    have c3' := c3 (R := List (List Int) × Int) (fun y64 => some (y64, 0))
    have e1 : cyc s [] = [] := rfl
    rw [e1, Int.natCast_zero] at c3'
    rw [el, c3']

theorem xor_low {x y : Int} (x0 : 0 ≤ x) (x1 : x ≤ 65536) (y0 : 0 ≤ y) (y1 : y ≤ 65536) : bit_and .i64 (bit_xor .i64 x y) 1 = (x + y) % 2 := by
  obtain ⟨a, rfl⟩ := Int.eq_ofNat_of_zero_le x0
  obtain ⟨b, rfl⟩ := Int.eq_ofNat_of_zero_le y0
  have t1 : (BitVec.ofInt 64 (a : Int)).toNat = a := by simp [BitVec.toNat_ofInt]; omega
  have t2 : (BitVec.ofInt 64 (b : Int)).toNat = b := by simp [BitVec.toNat_ofInt]; omega
  have e : (BitVec.ofInt 64 (a : Int) ^^^ BitVec.ofInt 64 (b : Int)).toNat = a ^^^ b := by rw [BitVec.toNat_xor, t1, t2]
  have hlt : a ^^^ b < 2 ^ 17 := Nat.xor_lt_two_pow (by omega) (by omega)
  have hx : bit_xor .i64 (a : Int) (b : Int) = ((a ^^^ b : Nat) : Int) := by
    show IntKind.wrap .i64 ((BitVec.ofInt 64 (a : Int) ^^^ BitVec.ofInt 64 (b : Int)).toNat : Int) = _
    rw [e]
    have w : IntKind.wrap .i64 ((a ^^^ b : Nat) : Int) = wi64 ((a ^^^ b : Nat) : Int) := rfl
    rw [w, wi64_id (by omega) (by omega)]
  rw [hx]
  have hm : (a ^^^ b) % 2 = (a + b) % 2 := by
    have h := Nat.xor_mod_two_pow (a := a) (b := b) (n := 1)
    rw [Nat.pow_one] at h
    rw [h]
    rcases (show a % 2 = 0 ∨ a % 2 = 1 by omega) with e1 | e1 <;> rcases (show b % 2 = 0 ∨ b % 2 = 1 by omega) with e2 | e2 <;> rw [e1, e2]
    · show 0 = _; omega
    · show 1 = _; omega
    · show 1 = _; omega
    · show 0 = _; omega
  generalize a ^^^ b = v at hlt hm
  have t3 : (BitVec.ofInt 64 (v : Int)).toNat = v := by simp [BitVec.toNat_ofInt]; omega
  have t4 : (BitVec.ofInt 64 (1 : Int)).toNat = 1 := by decide
  have e2 : (BitVec.ofInt 64 (v : Int) &&& BitVec.ofInt 64 (1 : Int)).toNat = v % 2 := by
    rw [BitVec.toNat_and, t3, t4, Nat.and_one_is_mod]
  show IntKind.wrap .i64 ((BitVec.ofInt 64 (v : Int) &&& BitVec.ofInt 64 (1 : Int)).toNat : Int) = _
  rw [e2, hm]
  have w : IntKind.wrap .i64 (((a + b) % 2 : Nat) : Int) = wi64 (((a + b) % 2 : Nat) : Int) := rfl
  rw [w, wi64_id (by omega) (by omega)]
  omega

theorem principal_told {N : Nat} (hN : 8589934600 < N) {d s a b c : Int} (hd : Cross d s) (hg : Good d a b c) (hs : d ≤ 65536) : ∃ b c : Int, cycle_Principal.f N d = some (1, b, c, 0) ∧ PF d s (1, b, c) := by
  obtain ⟨s0, s1⟩ := root_small hd hs
  have h4 := disc4 hd hg
  have hd1 := hd.d1
  have lo := hd.root.lo
  have hi := hd.root.hi
  have s2 : 2 ≤ s := by
    rcases Int.lt_or_le 1 s with h | h
    · omega
    · exfalso
      rcases (show s = 0 ∨ s = 1 by omega) with e | e <;> subst e
      · omega
      · have := hd.ne; omega
  have hx := xor_low s0 (by omega) (show 0 ≤ d by omega) hs
  have w1 : wi64 (s - (s + d) % 2) = s - (s + d) % 2 := wi64_id (by omega) (by omega)
  generalize hb : s - (s + d) % 2 = b at w1
  have hb0 : 1 ≤ b := by omega
  have hb1 : b ≤ s := by omega
  have hb2 : s < b + 2 := by omega
  have hpar : b % 2 = d % 2 := by omega
  have hbb := sq_mono (show 0 ≤ b by omega) hb1
  have b0 := sq_nonneg b
  have w2 : wi64 (b * b) = b * b := wi64_id (by omega) (by omega)
  have hdiv : ∃ e, b * b - d = 4 * e := by
    rcases (show d % 2 = 0 ∨ d % 2 = 1 by omega) with e | e
    · obtain ⟨k, hk⟩ : ∃ k, b = 2 * k := ⟨b / 2, by omega⟩
      have e2 : b * b = 4 * (k * k) := by rw [hk]; grind
      exact ⟨k * k - d / 4, by omega⟩
    · obtain ⟨k, hk⟩ : ∃ k, b = 2 * k + 1 := ⟨b / 2, by omega⟩
      have e2 : b * b = 4 * (k * k + k) + 1 := by rw [hk]; grind
      exact ⟨k * k + k - d / 4, by omega⟩
  obtain ⟨e, he⟩ := hdiv
  have w3 : wi64 (b * b - d) = 4 * e := by rw [wi64_id (by omega) (by omega)]; exact he
  have w4 : wi64 (Int.tdiv (4 * e) 4) = e := by rw [Int.mul_tdiv_cancel_left _ (by omega), wi64_id (by omega) (by omega)]
  have hgd : Good d 1 b e := ⟨by omega, by omega, by omega, by omega, by omega, by omega, by omega⟩
  refine ⟨b, e, ?_, ⟨hgd, ?_⟩, fun g h1 _ _ => h1⟩
  · unfold cycle_Principal.f
    rw [decide_eq_false (show ¬ d > 65536 by omega), cond_false, (cross_true hN hd hg).1, Option.bind_some, Bool.not_true, cond_false, root_of hN hd, Option.bind_some, hx, hb, w1, w2, w3, w4]
  · have : ab 1 = 1 := by decide
    show Red s 1 b
    exact ⟨hb0, hb1, by rw [this]; omega, by rw [this]; omega⟩

theorem index_none (N : Nat) {s : Int} {x y : T3} {m : Nat} (hm : m ≤ 4096) : ∀ (n k : Nat), k ≤ m → m - k < n → (∀ j, k ≤ j → j < m → orb s x j ≠ y) → ∀ {R : Type} (K0 : Unit → Option R) (K : Int → Option R), slices_Index___parquet_api_Binary_parquet_api_Binary_.l2 N n (flat s x m) (m : Int) (k : Int) y.1 y.2.1 y.2.2 K0 K = K0 () := by
  intro n
  induction n with
  | zero => intro k _ h; omega
  | succ n ih =>
    intro k hk hf hno R K0 K
    by_cases hlt : k < m
    · have hl := flat_len s x m
      obtain ⟨g1, g2, g3⟩ := flat_get s x m k hlt
      have c1 : decide ((k : Int) < (m : Int)) = true := decide_eq_true (by omega)
      have c2 : decide (0 ≤ (k : Int)) = true := decide_eq_true (by omega)
      have c3 : decide ((k : Int) < ((flat s x m).length / 3 : Int)) = true := decide_eq_true (by omega)
      have e3 := eq3 y (orb s x k)
      have hq : ¬ y = orb s x k := fun e => hno k (Nat.le_refl _) hlt e.symm
      have ew : wi64 ((k : Int) + 1) = ((k + 1 : Nat) : Int) := by rw [wi64_id (by omega) (by omega)]; simp
      rw [slices_Index___parquet_api_Binary_parquet_api_Binary_.l2]
      simp only [c1, c2, c3, Int.toNat_natCast, g1, g2, g3, e3, hq, decide_false, cond_true, cond_false, Bool.and_self, ew]
      exact ih (k + 1) (by omega) (by omega) (fun j j1 j2 => hno j (by omega) j2) K0 K
    · rw [slices_Index___parquet_api_Binary_parquet_api_Binary_.l2, decide_eq_false (by omega), cond_false]

open Classical in
/-- Properly equivalent just if the one is on the other's round. -/
theorem proper_told {N : Nat} (hN : 8589934600 < N) {d s d' s' a b c a' b' c' p q r t p' q' r' t' : Int} (hd : Cross d s) (hd' : Cross d' s') (hs : d ≤ 65536) {x y : T3} (hx : OKf d s x) (hy : OKf d' s' y)
    (h1 : cycle_Reduce.f N a b c = some (x.1, x.2.1, x.2.2, p, q, r, t, 0)) (h2 : cycle_Reduce.f N a' b' c' = some (y.1, y.2.1, y.2.2, p', q', r', t', 0)) :
    cycle_Proper.f N a b c a' b' c' = some (decide (d = d' ∧ ∃ j, orb s x j = y), 0) := by
  unfold cycle_Proper.f cycle_disc.f slices_Contains___parquet_api_Binary_parquet_api_Binary_.f slices_Index___parquet_api_Binary_parquet_api_Binary_.f
  rw [h1, h2]
  simp only [Option.bind_some, bne_self_eq_false, cond_false, disc_id hx.1, disc_id hy.1]
  by_cases hdd : d = d'
  · subst hdd
    obtain ⟨m, m1, m2, m3⟩ := round_whole hN hd hs hx
    have hl := flat_len s x m
    have e0 : ((flat s x m).length / 3 : Int) = (m : Int) := by omega
    simp only [bne_self_eq_false, cond_false, m3, Option.bind_some, e0]
    have z : ((0 : Nat) : Int) = 0 := rfl
    by_cases hj : ∃ j, orb s x j = y
    · obtain ⟨j, hj⟩ := hj
      obtain ⟨i, i1, i2, i3⟩ := index_go N (s := s) (x := x) (y := y) (m := m) (by omega) N 0 (j % m) (by omega) (Nat.mod_lt _ m2.pos) (by rw [← orb_mod m2]; exact hj) (by omega)
      rw [z] at i3
      rw [i3]
      have : decide ((i : Int) ≥ 0) = true := decide_eq_true (by omega)
      have hd2 : decide (True ∧ ∃ j, orb s x j = y) = true := decide_eq_true ⟨trivial, j, hj⟩
      simp [this, hj]
      exact ⟨j, hj⟩
    · have i3 := @index_none N s x y m (by omega) N 0 (by omega) (by omega) (fun j _ _ e => hj ⟨j, e⟩)
      simp only [Int.natCast_zero] at i3
      rw [i3]
      have : decide ((-1 : Int) ≥ 0) = false := by decide
      simp [this]
      exact fun j e => hj ⟨j, e⟩
  · have : (d != d') = true := by simpa using hdd
    simp [this, hdd]

end Go.Proofs.Ytlofhdoefjmabaa.Pure
