-- Plain laws of the row law11: ClassOnce, ClassKnown.
import Derived.Test.YtifnooogklfifaaPf
namespace Go.Proofs.Ytifnooogklfifaa.Cls
open Go Go.Proofs.Ytifnooogklfifaa.Ev
open Go.Proofs.Ytifnooogklfifaa.Pure (wi64_id Fine inB inR small_ reduce_model reduce_told reduce_not reduce_again reduced_model)
set_option linter.unusedVariables false
set_option linter.unusedSimpArgs false

theorem lgcd_loop (N : Nat) {R : Type} (l : List Int) (p q : Int) (K : Int → List Int → Int → Int → Option R) : ∀ (n : Nat) (x y : Int), 0 ≤ x → 0 ≤ y → y < n → parquetlaw11_gcd.l6 N n x y l p q K = K (gcdI x y) l p q
  | 0, x, y, _, h, h2 => by omega
  | n + 1, x, y, h0, h1, h2 => by
    rw [parquetlaw11_gcd.l6]
    by_cases hy : y > 0
    · have e : Int.tmod x y = x % y := Int.tmod_eq_emod_of_nonneg h0
      have c1 : (!(y == 0)) = true := by simp; omega
      rw [decide_eq_true hy, c1, cond_true, cond_true, e, lgcd_loop N l p q K n y (x % y) h1 (Int.emod_nonneg _ (by omega)) (by have := Int.emod_lt_of_pos x hy; omega)]
      rw [show gcdI y (x % y) = gcdI x y from NatL.gcd_step h0 hy]
    · have : y = 0 := by omega
      subst this
      rw [decide_eq_false hy, show gcdI x 0 = x from NatL.gcd_zero h0]
      rfl

theorem gcdI_ab (x y : Int) (h : y < 0) : gcdI x (-y) = gcdI x y := gcdI_neg x y
theorem gcdI_zero (x : Int) (h : 0 ≤ x) : gcdI 0 x = x := by unfold gcdI; simp [Int.gcd]; omega
theorem mx2_abs {x : Int} (h1 : -1000000 ≤ x) (h2 : x ≤ 1000000) : 0 ≤ mx2 x (wi64 (0 - x)) ∧ mx2 x (wi64 (0 - x)) ≤ 1000000 ∧ ∀ z, gcdI z (mx2 x (wi64 (0 - x))) = gcdI z x := by
  have e : wi64 (0 - x) = -x := by rw [show 0 - x = -x by omega]; exact wi64_id (by omega) (by omega)
  rw [e]
  unfold mx2
  split
  · exact ⟨by omega, by omega, fun z => gcdI_neg z x⟩
  · exact ⟨by omega, by omega, fun z => rfl⟩

theorem lgcd_told {N : Nat} (hN : 1000001 < N) {a b c : Int} (ha : 0 ≤ a) (ha2 : a ≤ 1000000) (hb : -1000000 ≤ b) (hb2 : b ≤ 1000000) (hc : 0 ≤ c) (hc2 : c ≤ 1000000) : parquetlaw11_gcd.f N [a, b, c] = some (cont a b c) := by
  obtain ⟨n, rfl⟩ : ∃ m, N = m + 4 := ⟨N - 4, by omega⟩
  obtain ⟨p1, p2, p3⟩ := mx2_abs (x := a) (by omega) ha2
  obtain ⟨q1, q2, q3⟩ := mx2_abs (x := b) hb hb2
  obtain ⟨r1, r2, r3⟩ := mx2_abs (x := c) (by omega) hc2
  have w1 : wi64 (0 + 1) = 1 := rfl
  have w2 : wi64 (1 + 1) = 2 := rfl
  have w3 : wi64 (2 + 1) = 3 := rfl
  unfold parquetlaw11_gcd.f cont
  have hlen : (([a, b, c] : List Int).length : Int) = 3 := rfl
  rw [hlen, parquetlaw11_gcd.l3, hlen]
  have g0 : ([a, b, c] : List Int).getD (0 : Int).toNat 0 = a := rfl
  have g1 : ([a, b, c] : List Int).getD (1 : Int).toNat 0 = b := rfl
  have g2 : ([a, b, c] : List Int).getD (2 : Int).toNat 0 = c := rfl
  have d0 : decide ((0 : Int) < 3) = true := rfl
  have d1 : decide ((0 : Int) ≤ 0) = true := rfl
  have d2 : decide ((1 : Int) < 3) = true := rfl
  have d3 : decide ((0 : Int) ≤ 1) = true := rfl
  have d4 : decide ((2 : Int) < 3) = true := rfl
  have d5 : decide ((0 : Int) ≤ 2) = true := rfl
  have d6 : decide ((3 : Int) < 3) = false := rfl
  have h1 := gcdI_nn a b
  rw [g0, d0, d1, Bool.and_self, cond_true, cond_true, lgcd_loop _ _ _ _ _ _ _ _ (by omega) p1 (by omega), p3, gcdI_zero a ha]
  simp only [w1]
  rw [parquetlaw11_gcd.l3, hlen, g1, d2, d3, Bool.and_self, cond_true, cond_true, lgcd_loop _ _ _ _ _ _ _ _ ha q1 (by omega), q3]
  simp only [w2]
  rw [parquetlaw11_gcd.l3, hlen, g2, d4, d5, Bool.and_self, cond_true, cond_true, lgcd_loop _ _ _ _ _ _ _ _ h1 r1 (by omega), r3]
  simp only [w3]
  rw [parquetlaw11_gcd.l3, d6]
  rfl

theorem rd_c {d a b c c' : Int} (h : Rd d a b c) (k : Rd d a b c') : c = c' := by
  have h1 := (Rd.iff h.pos h.lo h.hi).1 h
  have h2 := (Rd.iff k.pos k.lo k.hi).1 k
  rw [h1.2.1, h2.2.1]

theorem proper_told {N : Nat} (hN : 8589934600 < N) {a1 a2 a3 a b c p q r s : Int} (hR : binary_Reduce.f N a1 a2 a3 = some (a, b, c, p, q, r, s, 0)) {x : R3} (hx : Fine x.1 x.2.1 x.2.2) (hr : inR x.1 x.2.1) (hs : ¬ small_ x.1 x.2.1 x.2.2) :
    binary_Proper.f N a1 a2 a3 x.1 x.2.1 x.2.2 = some ((a == x.1) && ((b == x.2.1) && (c == x.2.2)), 0) := by
  unfold binary_Proper.f
  rw [hR, reduce_again hN hx hr hs]
  rfl

theorem once_loop {N : Nat} (hN : 8589934600 < N) {d : Int} (hd : Lst d) {L : List R3} (hL : Cl d L) {a1 a2 a3 a b c p q r s : Int} (hR : binary_Reduce.f N a1 a2 a3 = some (a, b, c, p, q, r, s, 0)) {i : Nat} (hi : i < L.length) (hix : L[i] = (a, b, c)) {T : Type} (k0 : Unit → Option T) (kr : Bool → Option T) : ∀ (n k : Nat), k ≤ L.length → L.length - k < n →
    parquetlaw11_ClassOnce.l12 N n i d L.length k a1 a2 a3 (flat3 L) k0 kr = k0 ()
  | 0, k, _, h => by omega
  | n + 1, k, h1, h2 => by
    have hlen := hL.len
    rw [parquetlaw11_ClassOnce.l12, len_flat3]
    by_cases hk : k < L.length
    · obtain ⟨e1, e2, e3⟩ := flat3_at hk
      have w1 : wi64 ((k : Int) + 1) = ((k + 1 : Nat) : Int) := by rw [wi64_id (by omega) (by omega)]; omega
      obtain ⟨hrd, hco⟩ := (hL.mem L[k]).1 (List.getElem_mem hk)
      obtain ⟨f1, f2, f3⟩ := rd_fine hd hrd
      have hP := proper_told hN hR f1 f2 f3
      have hag := reduce_again hN f1 f2 f3
      have hpl : classes_Place.f N L[k].1 L[k].2.1 L[k].2.2 = some ((k : Int), 0) := by
        have heq := hrd.eq
        rcases place_told hN f1 f2 f3 hag with ⟨g, _⟩ | ⟨_, g, _⟩ | ⟨_, _, g⟩
        · rw [heq] at g; have := hd.1; omega
        · exact absurd hco g
        · obtain ⟨j, hj, ej, hj2⟩ := g L (by rw [heq]; exact hL)
          have := nodup_at hL.nodup hj hk (by rw [ej])
          subst this
          exact hj2
      have hdi : binary_Disc.f N L[k].1 L[k].2.1 L[k].2.2 = some d := by rw [(disc_fine N f1).1, hrd.eq]
      have hre := reduced_model (N := N) f1 f2 f3
      have b1 := hrd.small hd.1; have b2 := hrd.csmall hd.1; have b3 := hrd.pos; have b4 := hrd.lo; have b5 := hrd.hi
      have hg : parquetlaw11_gcd.f N [L[k].1, L[k].2.1, L[k].2.2] = some 1 := by rw [lgcd_told (by omega) (by omega) (by omega) (by omega) (by omega) (by omega) (by omega), hco]
      have hcmp : ((a == L[k].1) && ((b == L[k].2.1) && (c == L[k].2.2))) = ((k : Int) == (i : Int)) := by
        rw [Bool.eq_iff_iff]
        simp only [Bool.and_eq_true, beq_iff_eq]
        constructor
        · rintro ⟨rfl, rfl, rfl⟩
          have := nodup_at hL.nodup hk hi (by rw [hix])
          omega
        · intro h
          have : k = i := by omega
          subst this
          rw [hix]
          exact ⟨rfl, rfl, rfl⟩
      simp only [decide_eq_true (show (k : Int) < L.length by omega), decide_eq_true (show (0 : Int) ≤ k by omega), cond_true, Bool.and_self, Int.toNat_natCast, e1, e2, e3, w1, hP, hpl, hdi, hre, hg, Option.bind_some, hcmp, beq_self_eq_true, bne_self_eq_false, Bool.not_true, cond_false]
      have hrec := once_loop hN hd hL hR hi hix k0 kr n (k + 1) (by omega) (by omega)
      by_cases hk0 : k = 0
      · subst hk0
        rw [decide_eq_false (by omega)]
        exact hrec
      · have hk1 : k - 1 < L.length := by omega
        have w2 : wi64 ((k : Int) - 1) = ((k - 1 : Nat) : Int) := by rw [wi64_id (by omega) (by omega)]; omega
        obtain ⟨u1, u2, u3⟩ := flat3_at hk1
        have hlt : lt3 L[k - 1] L[k] := List.pairwise_iff_getElem.mp hL.up (k - 1) k hk1 hk (by omega)
        obtain ⟨hrd1, _⟩ := (hL.mem L[k - 1]).1 (List.getElem_mem hk1)
        have hup : ¬ L[k - 1].1 > L[k].1 ∧ (L[k - 1].1 = L[k].1 → ¬ L[k - 1].2.1 ≥ L[k].2.1) := by
          unfold lt3 at hlt
          refine ⟨by omega, fun h3 h4 => ?_⟩
          have h5 : L[k - 1].2.1 = L[k].2.1 := by omega
          have h6 : L[k - 1].2.2 = L[k].2.2 := rd_c hrd1 (by rw [h3, h5]; exact hrd)
          omega
        simp only [decide_eq_true (show (k : Int) > 0 by omega), cond_true, w2, decide_eq_true (show (0 : Int) ≤ ((k - 1 : Nat) : Int) by omega), decide_eq_true (show ((k - 1 : Nat) : Int) < L.length by omega), Bool.and_self, Int.toNat_natCast, u1, u2, decide_eq_false hup.1, cond_false]
        by_cases q1 : L[k - 1].1 = L[k].1
        · rw [beq_iff_eq.mpr q1, decide_eq_false (hup.2 q1)]
          exact hrec
        · rw [beq_eq_false_iff_ne.mpr q1]
          exact hrec
    · rw [decide_eq_false (by omega)]
      rfl
end Go.Proofs.Ytifnooogklfifaa.Cls

namespace Go.Proofs.Ytifnooogklfifaa.Pure
open Go Go.Proofs.Ytifnooogklfifaa.Ev Go.Proofs.Ytifnooogklfifaa.Cls
set_option linter.unusedVariables false
set_option linter.unusedSimpArgs false

theorem ClassOnce (a1 a2 a3 : Int) (w1 : (Lit.int .i64 a1).wf = true) (w2 : (Lit.int .i64 a2).wf = true) (w3 : (Lit.int .i64 a3).wf = true) : ∃ N, parquetlaw11_ClassOnce.f N a1 a2 a3 = some true := by
  refine ⟨N0, ?_⟩
  unfold parquetlaw11_ClassOnce.f
  rw [works_true]
  simp only [Option.bind_some, Bool.not_true, cond_false]
  by_cases hf : Fine a1 a2 a3
  · obtain ⟨a', b', c', t, u, v, w, k1, k2, k3, k4, k5, k6, k7, k8, k9, k10, k11, k12⟩ := reduce_told (N := N0) (by decide) hf
    have hdd : b' * b' - 4 * a' * c' = a2 * a2 - 4 * a1 * a3 := by
      have : Eqv a1 a2 a3 a' b' c' := ⟨t, u, v, w, k1, k2, k3, k4⟩
      exact this.disc
    rcases place_told (N := N0) (by decide) k5 k6 k7 k12 with ⟨h1, h2⟩ | ⟨h1, h2, h3⟩ | ⟨h1, h2, h3⟩
    · rw [h2]; rfl
    · rw [h3]; rfl
    · have hl := fine_lst k5 h1
      obtain ⟨L, l1, l2, l3, l4, l5⟩ := cls_told (N := N0) (by decide) hl
      obtain ⟨i, hi, e, h4⟩ := h3 L l1
      rw [h4]
      simp only [Option.bind_some, bne_self_eq_false, cond_false]
      rw [(disc_fine N0 hf).1, ← hdd]
      simp only [Option.bind_some]
      rw [l4, l5]
      simp only [Option.bind_some, bne_self_eq_false, cond_false, len_flat3, decide_eq_false (show ¬ (i : Int) < 0 by omega), decide_eq_false (show ¬ (i : Int) ≥ L.length by omega)]
      exact once_loop (N := N0) (by decide) hl l1 k12 hi e _ _ N0 0 (by omega) (by have := l1.len; unfold N0; omega)
  · obtain ⟨e, he, h1, h2⟩ := reduce_not (N := N0) hf
    have hne2 : (e != 0) = true := by simp [he]
    have hp : classes_Place.f N0 a1 a2 a3 = some (0, e) := by
      unfold classes_Place.f
      rw [h2]
      simp only [Option.bind_some, hne2, cond_true]
    rw [hp]
    simp only [Option.bind_some, hne2, cond_true, beq_self_eq_true]
end Go.Proofs.Ytifnooogklfifaa.Pure
