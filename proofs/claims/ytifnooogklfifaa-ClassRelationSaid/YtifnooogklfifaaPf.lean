-- Plain laws of the row law11: the place of a class; ClassPlaces, ClassOnce, ClassKnown.
import Derived.Test.YtifnooogklfifaaPe
namespace Go.Proofs.Ytifnooogklfifaa.Cls
open Go Go.Proofs.Ytifnooogklfifaa.Ev
open Go.Proofs.Ytifnooogklfifaa.Pure (wi64_id Fine inB inR small_ disc_model disc_id reduce_model reduce_told reduce_not reduce_again reduced_model check_model check_fine)
set_option linter.unusedVariables false
set_option linter.unusedSimpArgs false

theorem fine_rd {d a b c : Int} (h : Fine a b c) (hr : inR a b) (hs : ¬ small_ a b c) (hd : b * b - 4 * a * c = d) : Rd d a b c := by
  unfold inR at hr; unfold small_ at hs
  exact ⟨hd, h.pos, hr.1, hr.2, by omega⟩
theorem rd_fine {d a b c : Int} (hd : Lst d) (h : Rd d a b c) : Fine a b c ∧ inR a b ∧ ¬ small_ a b c := by
  have h1 := h.small hd.1; have h2 := h.csmall hd.1; have h3 := h.pos; have h4 := h.lo; have h5 := h.hi; have h6 := h.eq; have h7 := h.last
  obtain ⟨g1, g2, g3⟩ := hd
  exact ⟨⟨⟨by omega, by omega, by omega⟩, h3, by omega, by omega⟩, ⟨h4, h5⟩, by unfold small_; omega⟩

theorem sq4 (b : Int) : (b * b) % 4 = 0 ∨ (b * b) % 4 = 1 := by
  rcases (show b % 2 = 0 ∨ b % 2 = 1 by omega) with hb | hb
  · have e2 : b = 2 * (b / 2) := by omega
    have e3 : b * b = 4 * ((b / 2) * (b / 2)) := by generalize b / 2 = q at *; subst e2; grind
    omega
  · have e2 : b = 2 * (b / 2) + 1 := by omega
    have e3 : b * b = 4 * ((b / 2) * (b / 2) + (b / 2)) + 1 := by generalize b / 2 = q at *; subst e2; grind
    omega
theorem fine_lst {a b c : Int} (h : Fine a b c) (h2 : -65536 ≤ b * b - 4 * a * c) : Lst (b * b - 4 * a * c) := by
  have e : 4 * a * c = 4 * (a * c) := by grind
  have := sq4 b; have := h.d0
  exact ⟨h2, by omega, by omega⟩
theorem disc_fine (N : Nat) {a b c : Int} (h : Fine a b c) : binary_Disc.f N a b c = some (b * b - 4 * a * c) ∧ parquetref08_Disc.f N a b c = some (b * b - 4 * a * c) := by
  have := disc_model N a b c
  rw [if_pos h.inb, disc_id h.inb] at this
  exact this

theorem idx_loop (N : Nat) {L : List R3} {x : R3} {p : Nat} (hp : p < L.length) (hx : L[p] = x) (hno : ∀ j (hj : j < p), L[j]'(by omega) ≠ x) (hl : L.length ≤ 45000) {T : Type} (k0 : Unit → Option T) (kr : Int → Option T) : ∀ (n i : Nat), i ≤ p → p - i < n →
    slices_Index___parquet_api_Binary_parquet_api_Binary_.l2 N n (flat3 L) L.length i x.1 x.2.1 x.2.2 k0 kr = kr p
  | 0, i, _, h => by omega
  | n + 1, i, h1, h2 => by
    have hi : i < L.length := by omega
    obtain ⟨e1, e2, e3⟩ := flat3_at hi
    have w1 : wi64 ((i : Int) + 1) = ((i + 1 : Nat) : Int) := by rw [wi64_id (by omega) (by omega)]; omega
    rw [slices_Index___parquet_api_Binary_parquet_api_Binary_.l2, len_flat3]
    simp only [decide_eq_true (show (i : Int) < L.length by omega), decide_eq_true (show (0 : Int) ≤ i by omega), cond_true, Bool.and_self, Int.toNat_natCast, e1, e2, e3, w1]
    by_cases hip : i = p
    · subst hip
      rw [← hx]
      simp only [beq_self_eq_true, Bool.and_self, cond_true]
    · have hne := hno i (by omega)
      have : ((x.1 == L[i].1) && ((x.2.1 == L[i].2.1) && (x.2.2 == L[i].2.2))) = false := by
        rw [Bool.eq_false_iff]
        intro hc
        simp only [Bool.and_eq_true, beq_iff_eq] at hc
        exact hne (Prod.ext hc.1.symm (Prod.ext hc.2.1.symm hc.2.2.symm))
      rw [this, cond_false]
      exact idx_loop N hp hx hno hl k0 kr n (i + 1) (by omega) (by omega)

theorem nodup_at {L : List R3} (h : L.Nodup) {i j : Nat} (hi : i < L.length) (hj : j < L.length) (e : L[i] = L[j]) : i = j := by
  rcases Nat.lt_trichotomy i j with h1 | h1 | h1
  · exact absurd e (List.pairwise_iff_getElem.mp h i j hi hj h1)
  · exact h1
  · exact absurd e.symm (List.pairwise_iff_getElem.mp h j i hj hi h1)

theorem index_told {N : Nat} (hN : 45001 < N) {L : List R3} (hn : L.Nodup) (hl : L.length ≤ 45000) {x : R3} {p : Nat} (hp : p < L.length) (hx : L[p] = x) : slices_Index___parquet_api_Binary_parquet_api_Binary_.f N (flat3 L) x.1 x.2.1 x.2.2 = some (p : Int) := by
  unfold slices_Index___parquet_api_Binary_parquet_api_Binary_.f
  rw [len_flat3]
  exact idx_loop N hp hx (fun j hj e => by have := nodup_at hn (show j < L.length by omega) hp (e.trans hx.symm); omega) hl _ _ N 0 (by omega) (by omega)

/-- The classes of a discriminant. -/
structure Cl (d : Int) (L : List R3) : Prop where
  up : L.Pairwise lt3
  mem : ∀ x, x ∈ L ↔ Rd d x.1 x.2.1 x.2.2 ∧ cont x.1 x.2.1 x.2.2 = 1
  len : L.length ≤ 45000
theorem Cl.nodup {d : Int} {L : List R3} (h : Cl d L) : L.Nodup := h.up.imp (fun hx => lt3_ne hx)

theorem cls_told {N : Nat} (hN : 1000000001 < N) {d : Int} (hd : Lst d) : ∃ L, Cl d L ∧ classes_all.f N d = some (flat3 L) ∧ parquetref11_All.f N d = some (flat3 L) ∧ classes_All.f N d = some (flat3 L, 0) ∧ classes_Number.f N d = some ((L.length : Int), 0) := by
  obtain ⟨R, r1, r2, r3, r4, r5⟩ := All_told hN hd
  obtain ⟨R', s1, s2, s3, s4⟩ := all_told hN hd
  obtain rfl := r1.one s1
  refine ⟨R.filter prim, ⟨r1.up.filter _, fun x => ?_, by have := r2.len; have := List.length_filter_le prim R; omega⟩, s3, s4, r3, r5⟩
  rw [List.mem_filter, r1.mem]
  unfold prim
  rw [beq_iff_eq]

theorem place_told {N : Nat} (hN : 8589934600 < N) {a b c a' b' c' p q r s : Int} (h : Fine a' b' c') (hr : inR a' b') (hs : ¬ small_ a' b' c') (hR : binary_Reduce.f N a b c = some (a', b', c', p, q, r, s, 0)) :
    (b' * b' - 4 * a' * c' < -65536 ∧ classes_Place.f N a b c = some (0, 80)) ∨
    (-65536 ≤ b' * b' - 4 * a' * c' ∧ cont a' b' c' ≠ 1 ∧ classes_Place.f N a b c = some (0, 81)) ∨
    (-65536 ≤ b' * b' - 4 * a' * c' ∧ cont a' b' c' = 1 ∧ ∀ L, Cl (b' * b' - 4 * a' * c') L → ∃ i, ∃ hi : i < L.length, L[i] = (a', b', c') ∧ classes_Place.f N a b c = some ((i : Int), 0)) := by
  have hD := (disc_fine N h).1
  have hC : binary_Content.f N a' b' c' = some (cont a' b' c') := Pure.content_model (by omega) h.inb
  unfold classes_Place.f
  rw [hR]
  have z0 : ((0 : Int) != 0) = false := rfl
  simp only [Option.bind_some, z0, cond_false]
  rw [hD]
  simp only [Option.bind_some]
  by_cases h1 : b' * b' - 4 * a' * c' < -65536
  · exact .inl ⟨h1, by rw [decide_eq_true h1]; rfl⟩
  · rw [decide_eq_false h1, hC]
    simp only [Option.bind_some, cond_false]
    by_cases h2 : cont a' b' c' = 1
    · have hl := fine_lst h (by omega)
      obtain ⟨L, l1, l2, l3, l4, l5⟩ := cls_told (N := N) (by omega) hl
      refine .inr (.inr ⟨by omega, h2, fun L' hL' => ?_⟩)
      have hmem : (a', b', c') ∈ L := (l1.mem _).2 ⟨fine_rd h hr hs rfl, h2⟩
      have hLL : L' = L := by
        have p : L'.Perm L := (List.perm_ext_iff_of_nodup hL'.nodup l1.nodup).mpr fun x => by rw [hL'.mem, l1.mem]
        exact (srt3_unique p (hL'.up.imp fun h => lt3_le h)).trans (srt3_unique (List.Perm.refl _) (l1.up.imp fun h => lt3_le h)).symm
      subst hLL
      obtain ⟨i, hi, e⟩ := List.getElem_of_mem hmem
      refine ⟨i, hi, e, ?_⟩
      rw [h2, l2]
      simp only [Option.bind_some, show ((1 : Int) != 1) = false from rfl, cond_false]
      have := index_told (N := N) (by omega) l1.nodup l1.len hi e
      rw [this]
      rfl
    · refine .inr (.inl ⟨by omega, h2, ?_⟩)
      rw [show (cont a' b' c' != 1) = true by simp [h2]]
      rfl
end Go.Proofs.Ytifnooogklfifaa.Cls

namespace Go.Proofs.Ytifnooogklfifaa.Pure
open Go Go.Proofs.Ytifnooogklfifaa.Ev Go.Proofs.Ytifnooogklfifaa.Cls

theorem ClassPlaces (a1 a2 a3 : Int) (w1 : (Lit.int .i64 a1).wf = true) (w2 : (Lit.int .i64 a2).wf = true) (w3 : (Lit.int .i64 a3).wf = true) : ∃ N, parquetlaw11_ClassPlaces.f N a1 a2 a3 = some true := by
  refine ⟨N0, ?_⟩
  unfold parquetlaw11_ClassPlaces.f
  rw [works_true]
  by_cases hf : Fine a1 a2 a3
  · obtain ⟨a', b', c', t, u, v, w, k1, k2, k3, k4, k5, k6, k7, k8, k9, k10, k11, k12⟩ := reduce_told (N := N0) (by decide) hf
    obtain ⟨x1, x2, x3, x4, x5, x6, x7, x8, m1, m2, m3⟩ := reduce_model (N := N0) (by decide) a1 a2 a3
    rw [k12] at m1
    simp only [Option.some.injEq, Prod.mk.injEq] at m1
    obtain ⟨rfl, rfl, rfl, rfl, rfl, rfl, rfl, rfl⟩ := m1
    have hdd : b' * b' - 4 * a' * c' = a2 * a2 - 4 * a1 * a3 := by
      have : Eqv a1 a2 a3 a' b' c' := ⟨t, u, v, w, k1, k2, k3, k4⟩
      exact this.disc
    have hD := (disc_fine N0 hf).2
    have hp := place_told (N := N0) (by decide) k5 k6 k7 k12
    rw [m2]
    simp only [Option.bind_some, beq_self_eq_true, cond_true, bne_self_eq_false, cond_false]
    rw [hD, ← hdd]
    simp only [Option.bind_some]
    rcases hp with ⟨h1, h2⟩ | ⟨h1, h2, h3⟩ | ⟨h1, h2, h3⟩
    · rw [h2, decide_eq_true h1]; rfl
    · have hl := fine_lst k5 h1
      have hrd := fine_rd k5 k6 k7 rfl
      have q1 := hrd.small h1; have q2 := hrd.csmall h1; have q3 := hrd.lo; have q4 := hrd.hi
      have hc : parquetref11_Content.f N0 a' b' c' = some (cont a' b' c') := rcontent (by have := hrd.pos; omega) (by unfold N0; omega) (by unfold N0; omega) (by omega) (by unfold N0; omega) (by omega)
      rw [h3, decide_eq_false (by omega), hc]
      simp only [Option.bind_some, cond_false]
      rw [show (cont a' b' c' != 1) = true by simp [h2]]
      rfl
    · have hl := fine_lst k5 h1
      have hrd := fine_rd k5 k6 k7 rfl
      have q1 := hrd.small h1; have q2 := hrd.csmall h1; have q3 := hrd.lo; have q4 := hrd.hi
      have hc : parquetref11_Content.f N0 a' b' c' = some (cont a' b' c') := rcontent (by have := hrd.pos; omega) (by unfold N0; omega) (by unfold N0; omega) (by omega) (by unfold N0; omega) (by omega)
      obtain ⟨L, l1, l2, l3, l4, l5⟩ := cls_told (N := N0) (by decide) hl
      obtain ⟨i, hi, e, h4⟩ := h3 L l1
      obtain ⟨e1, e2, e3⟩ := flat3_at hi
      rw [h4, decide_eq_false (show ¬ b' * b' - 4 * a' * c' < -65536 by omega), hc, h2, l3]
      simp only [Option.bind_some, cond_false, bne_self_eq_false, beq_self_eq_true, cond_true, len_flat3, decide_eq_true (show (i : Int) ≥ 0 by omega), decide_eq_true (show (i : Int) < L.length by omega), decide_eq_true (show (0 : Int) ≤ i by omega), Bool.and_self, Int.toNat_natCast, e1, e2, e3, e]
  · obtain ⟨e, he, h1, h2⟩ := reduce_not (N := N0) hf
    obtain ⟨x1, x2, x3, x4, x5, x6, x7, x8, m1, m2, m3⟩ := reduce_model (N := N0) (by decide) a1 a2 a3
    rw [h2] at m1
    simp only [Option.some.injEq, Prod.mk.injEq] at m1
    obtain ⟨rfl, rfl, rfl, rfl, rfl, rfl, rfl, rfl⟩ := m1
    have hne : (e == 0) = false := beq_eq_false_iff_ne.mpr he
    have hne2 : (e != 0) = true := by simp [he]
    have hp : classes_Place.f N0 a1 a2 a3 = some (0, e) := by
      unfold classes_Place.f
      rw [h2]
      simp only [Option.bind_some, hne2, cond_true]
    rw [hp, m2]
    simp only [Option.bind_some, hne, hne2, cond_false, cond_true, beq_self_eq_true]
end Go.Proofs.Ytifnooogklfifaa.Pure
