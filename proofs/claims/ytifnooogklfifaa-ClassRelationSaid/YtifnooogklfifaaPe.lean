-- Plain laws of the row law11: the program's classes are the document's; ClassLists, ClassWeighs.
import Derived.Test.YtifnooogklfifaaPd
import Derived.Test.YtifnooogklfifaaT6
namespace Go.Proofs.Ytifnooogklfifaa.Cls
open Go Go.Proofs.Ytifnooogklfifaa.Ev
open Go.Proofs.Ytifnooogklfifaa.Pure (wi64_id)
set_option linter.unusedVariables false
set_option linter.unusedSimpArgs false

theorem demon_all {R : Type} {n : Nat} {f : Nat → Option R} {r : R} (h0 : 0 < n) (h : ∀ i, i < n → f i = some r) : demon n f = some r := by
  unfold demon
  have hx : 0 < n ∧ ∃ r, ∀ i, i < n → f i = some r := ⟨h0, r, h⟩
  rw [dif_pos hx]
  have := Classical.choose_spec hx.2 0 h0
  rw [← this, h 0 h0]

theorem erase_perm {α : Type} : ∀ (l : List α) (i : Nat) (h : i < l.length), (l[i] :: l.eraseIdx i).Perm l
  | [], i, h => by simp at h
  | a :: l, 0, _ => .refl _
  | a :: l, i + 1, h => by
    have h' : i < l.length := by simpa using h
    exact (List.Perm.swap a l[i] _).trans ((erase_perm l i h').cons a)
theorem wf_i64 {n : Int} (h : (Lit.int .i64 n).wf = true) : -9223372036854775808 ≤ n ∧ n < 9223372036854775808 := by
  simp only [Lit.wf, IntKind.min, IntKind.max, IntKind.signed, IntKind.bits, if_true, Bool.and_eq_true, decide_eq_true_eq] at h
  omega

/-- The key at a place, as a row. -/
def kat (ks : List (List Int)) (j : Nat) : R3 := row (ks.getD j [])
theorem kat_range (ks : List (List Int)) : (List.range ks.length).map (kat ks) = ks.map row := by
  apply List.ext_getElem?
  intro i
  by_cases h : i < ks.length
  · simp [kat, List.getElem?_eq_getElem h, List.getD_eq_getElem?_getD, h]
  · simp [h]

section
variable {d : Int} {ks : List (List Int)} {vs : List Int}

theorem Inv.at (h : Inv (Rd d) ks vs) {j : Nat} (hj : j < ks.length) : (ks.getD j []).getD 0 0 = (kat ks j).1 ∧ (ks.getD j []).getD 1 0 = (kat ks j).2.1 ∧ (ks.getD j []).getD 2 0 = (kat ks j).2.2 ∧ vs.getD j 0 = cont (kat ks j).1 (kat ks j).2.1 (kat ks j).2.2 := by
  refine ⟨rfl, rfl, rfl, ?_⟩
  obtain ⟨a, b, c, h1, h2⟩ := h.sound ks[j] (List.getElem_mem hj)
  have h3 : ks[j]? = some [a, b, c] := by rw [List.getElem?_eq_getElem hj, h1]
  have := h.val j a b c h3
  simp [kat, row, List.getD_eq_getElem?_getD, h3, this]

theorem all_loop {N : Nat} (h : Inv (Rd d) ks vs) {T : Type} (K : List Int → Option T) (r : T) : ∀ (n : Nat) (rem : List Nat) (X : List R3) (cur : Nat), (∀ j ∈ rem, j < ks.length) → rem.length < n → X.length + rem.length ≤ 45000 →
    (∀ Y : List R3, Y.Perm (X ++ (rem.map (kat ks)).filter prim) → K (flat3 Y) = some r) → classes_all.l3 N n (flat3 X) ks vs rem cur K = some r
  | 0, rem, X, cur, _, h2, _, _ => by omega
  | n + 1, rem, X, cur, h1, h2, h3, hK => by
    rw [classes_all.l3]
    cases hr : rem with
    | nil =>
      subst hr
      simp only [List.isEmpty_nil, cond_true]
      exact hK X (by simp)
    | cons x0 r0 =>
      rw [← hr]
      have hne : rem.isEmpty = false := by rw [hr]; rfl
      rw [hne, cond_false]
      refine demon_all (by rw [hr]; simp) fun p hp => ?_
      have hg : rem.getD p 0 = rem[p] := by simp [List.getD_eq_getElem?_getD, List.getElem?_eq_getElem hp]
      have hj := h1 rem[p] (List.getElem_mem hp)
      obtain ⟨e1, e2, e3, e4⟩ := h.at hj
      have hperm : (kat ks rem[p] :: (rem.eraseIdx p).map (kat ks)).Perm (rem.map (kat ks)) := by
        have := (erase_perm _ _ hp).map (kat ks)
        simpa using this
      have hlen : (rem.eraseIdx p).length + 1 = rem.length := by rw [List.length_eraseIdx]; simp [hp]; omega
      have hsub : ∀ j ∈ rem.eraseIdx p, j < ks.length := fun j hj => h1 j (List.mem_of_mem_eraseIdx hj)
      have hroom := roomy_flat (R := X) (by omega)
      have hblt : Nat.blt rem[p] ks.length = true := by simpa [Nat.blt_eq] using hj
      simp only [hg, hblt, cond_true, e1, e2, e3, e4, hroom, flat3_snoc]
      have hf := hperm.filter prim
      cases hq : cont (kat ks rem[p]).1 (kat ks rem[p]).2.1 (kat ks rem[p]).2.2 == 1 with
      | true =>
        rw [cond_true]
        rw [List.filter_cons_of_pos (by exact hq)] at hf
        refine all_loop h K r n _ _ _ hsub (by omega) (by simp; omega) fun Y hY => hK Y (hY.trans ?_)
        rw [List.append_assoc]
        exact List.Perm.append_left X hf
      | false =>
        rw [cond_false]
        rw [List.filter_cons_of_neg (by unfold prim; rw [hq]; simp)] at hf
        exact all_loop h K r n _ _ _ hsub (by omega) (by omega) fun Y hY => hK Y (hY.trans (List.Perm.append_left X hf))

theorem hur_loop {N : Nat} (h : Inv (Rd d) ks vs) (hp : ∀ x ∈ ks.map row, 0 < x.1) {T : Type} (K : Int → Option T) (r : T) : ∀ (n : Nat) (rem : List Nat) (s : Int) (cur : Nat), (∀ j ∈ rem, j < ks.length) → rem.length < n → 0 ≤ s → s + 12 * rem.length ≤ 1000000 →
    K (s + wsum (rem.map (kat ks))) = some r → classes_Hurwitz.l10 N n s 6 4 12 ks vs rem cur K = some r
  | 0, rem, s, cur, _, h2, _, _, _ => by omega
  | n + 1, rem, s, cur, h1, h2, h3, h4, hK => by
    rw [classes_Hurwitz.l10]
    cases hr : rem with
    | nil =>
      subst hr
      simp only [List.isEmpty_nil, cond_true]
      simpa [wsum] using hK
    | cons x0 r0 =>
      rw [← hr]
      have hne : rem.isEmpty = false := by rw [hr]; rfl
      rw [hne, cond_false]
      refine demon_all (by rw [hr]; simp) fun p hp' => ?_
      have hg : rem.getD p 0 = rem[p] := by simp [List.getD_eq_getElem?_getD, List.getElem?_eq_getElem hp']
      have hj := h1 rem[p] (List.getElem_mem hp')
      obtain ⟨e1, e2, e3, e4⟩ := h.at hj
      have hperm : (kat ks rem[p] :: (rem.eraseIdx p).map (kat ks)).Perm (rem.map (kat ks)) := by
        have := (erase_perm _ _ hp').map (kat ks)
        simpa using this
      have hlen : (rem.eraseIdx p).length + 1 = rem.length := by rw [List.length_eraseIdx]; simp [hp']; omega
      have hsub : ∀ j ∈ rem.eraseIdx p, j < ks.length := fun j hj => h1 j (List.mem_of_mem_eraseIdx hj)
      have hblt : Nat.blt rem[p] ks.length = true := by simpa [Nat.blt_eq] using hj
      have hpos : 0 < (kat ks rem[p]).1 := hp _ (by rw [← kat_range]; exact List.mem_map.mpr ⟨_, List.mem_range.mpr hj, rfl⟩)
      have w2 : wi64 (s + 6) = s + 6 := wi64_id (by omega) (by omega)
      have w3 : wi64 (s + 4) = s + 4 := wi64_id (by omega) (by omega)
      have w4 : wi64 (s + 12) = s + 12 := wi64_id (by omega) (by omega)
      have hw := wsum_perm hperm
      simp only [wsum] at hw
      simp only [hg, hblt, cond_true, e1, e2, e3, w2, w3, w4, classes_Hurwitz_1.f, classes_Hurwitz_2.f, classes_Hurwitz_3.f]
      have hbd := wt_bd (kat ks rem[p])
      have rec_ : classes_Hurwitz.l10 N n (s + wt (kat ks rem[p])) 6 4 12 ks vs (rem.eraseIdx p) rem[p] K = some r := by
        refine hur_loop h hp K r n _ _ _ hsub (by omega) (by omega) (by omega) ?_
        rw [Int.add_assoc, hw]; exact hK
      revert rec_
      generalize kat ks rem[p] = x at *
      unfold wt
      have cs : ∀ p : Prop, p = True ∨ p = False := fun p => by by_cases h : p <;> simp [h]
      rcases cs (x.2.1 = 0) with q1 | q1 <;> rcases cs (x.1 = x.2.2) with q2 | q2 <;> rcases cs (x.1 = x.2.1) with q3 | q3 <;>
        simp only [beqd, q1, q2, q3, decide_true, decide_false, cond_true, cond_false, if_true, if_false, and_true, and_self, and_false, Option.bind_some] <;> exact id
end

theorem sort_flat {N : Nat} {Y R : List R3} (hp : Y.Perm R) (hs : R.Pairwise (fun a b => le3 a b = true)) (hl : Y.length ≤ 45000) : slices_SortFunc___parquet_api_Binary_parquet_api_Binary_.f N (flat3 Y) = some (flat3 R) := by
  unfold slices_SortFunc___parquet_api_Binary_parquet_api_Binary_.f sort3
  rw [rows_flat3, ← srt3_unique hp.symm hs]
  have : Nat.blt (flat3 Y).length 4611686018427387904 = true := by rw [flat3_length]; simp [Nat.blt_eq]; omega
  rw [this]
  rfl

/-- A discriminant that is listed. -/
def Lst (d : Int) : Prop := -65536 ≤ d ∧ d ≤ -3 ∧ (d % 4 = 0 ∨ d % 4 = 1)

theorem all_told {N : Nat} (hN : 1000000001 < N) {d : Int} (hd : Lst d) : ∃ R, Ris (Rd d) R ∧ Tame R ∧ classes_all.f N d = some (flat3 (R.filter prim)) ∧ parquetref11_All.f N d = some (flat3 (R.filter prim)) := by
  obtain ⟨h1, h2, h3⟩ := hd
  obtain ⟨R, r1, r2, r3⟩ := forms_told (N := N) (by omega) h1 (by omega)
  obtain ⟨s1, s2⟩ := rall_told (N := N) (by omega) h1 (by omega) r1
  obtain ⟨ks, vs, k1, k2⟩ := cl_told hN h1 (by omega) h3
  have hp := k1.perm r1
  have hl : ks.length = R.length := by have := hp.length_eq; simpa using this
  have hl2 := s2.len
  refine ⟨R, r1, s2, ?_, s1⟩
  unfold classes_all.f
  rw [k2]
  simp only [Option.bind_some]
  refine all_loop k1 _ _ N _ [] _ (fun j hj => List.mem_range.mp hj) (by simp; omega) (by simp; omega) fun Y hY => ?_
  rw [kat_range, List.nil_append] at hY
  have hY2 := hY.trans (hp.filter prim)
  have := hY2.length_eq
  have := List.length_filter_le prim R
  rw [sort_flat hY2 (r1.sorted.filter _) (by omega)]
  rfl

theorem hur_told {N : Nat} (hN : 1000000001 < N) {n : Int} (h0 : 0 ≤ n) (h1 : n ≤ 65536) : ∃ h, classes_Hurwitz.f N n = some (h, 0) ∧ parquetref11_Hurwitz.f N n = some h ∧
    ((n = 0 ∧ h = -1) ∨ (n ≠ 0 ∧ (n % 4 = 1 ∨ n % 4 = 2) ∧ h = 0) ∨ (n ≠ 0 ∧ (n % 4 = 0 ∨ n % 4 = 3) ∧ ∃ R, Ris (Rd (-n)) R ∧ Tame R ∧ h = wsum R)) := by
  have e1 : Int.tmod n 4 = n % 4 := Int.tmod_eq_emod_of_nonneg h0
  have e2 : wi64 (0 - n) = -n := by rw [show 0 - n = -n by omega]; exact wi64_id (by omega) (by omega)
  unfold classes_Hurwitz.f parquetref11_Hurwitz.f
  rw [decide_eq_false (show ¬ n < 0 by omega), decide_eq_false (show ¬ n > 65536 by omega), e1, e2]
  simp only [cond_false]
  by_cases hz : n = 0
  · subst hz
    exact ⟨-1, rfl, rfl, .inl ⟨rfl, rfl⟩⟩
  rw [beq_eq_false_iff_ne.mpr hz]
  simp only [cond_false]
  by_cases q1 : n % 4 = 1
  · rw [q1]; exact ⟨0, rfl, rfl, .inr (.inl ⟨hz, .inl rfl, rfl⟩)⟩
  by_cases q2 : n % 4 = 2
  · rw [q2]; exact ⟨0, rfl, rfl, .inr (.inl ⟨hz, .inr rfl, rfl⟩)⟩
  rw [beq_eq_false_iff_ne.mpr q1, beq_eq_false_iff_ne.mpr q2]
  simp only [cond_false]
  obtain ⟨R, r1, r2, r3⟩ := forms_told (N := N) (by omega) (d := -n) (by omega) (by omega)
  obtain ⟨ks, vs, k1, k2⟩ := cl_told hN (d := -n) (by omega) (by omega) (by omega)
  have ht := Rd.tame (by omega) r1 r2
  have hp := k1.perm r1
  have hl : ks.length = R.length := by have := hp.length_eq; simpa using this
  refine ⟨wsum R, ?_, ?_, .inr (.inr ⟨hz, by omega, R, r1, ht, rfl⟩)⟩
  · rw [k2]
    simp only [Option.bind_some]
    refine hur_loop k1 (fun x hx => (ht.el x (hp.mem_iff.mp hx)).1) _ _ N _ 0 _ (fun j hj => List.mem_range.mp hj) (by simp; omega) (by omega) (by simp; omega) ?_
    rw [kat_range, wsum_perm hp, Int.zero_add]
  · rw [r3]
    simp only [Option.bind_some]
    have := rhur_loop (N := N) ht (fun y7 => some y7) N 0 0 (by omega) (by omega) (by omega) (by omega)
    rw [List.drop_zero, Int.zero_add] at this
    exact this

theorem check_iff (N : Nat) (d : Int) (hd : -9223372036854775808 ≤ d) (hd1 : d < 9223372036854775808) : (Lst d ∧ classes_Check.f N d = some 0 ∧ parquetref11_Check.f N d = some 0) ∨ (¬ Lst d ∧ classes_Check.f N d = some 80 ∧ parquetref11_Check.f N d = some 80) := by
  unfold classes_Check.f parquetref11_Check.f Lst
  by_cases q1 : d < -65536
  · refine .inr ⟨by omega, ?_, ?_⟩
    · rw [decide_eq_true q1]; rfl
    · rw [decide_eq_true q1, decide_eq_false (by omega)]; rfl
  by_cases q2 : d > -3
  · refine .inr ⟨by omega, ?_, ?_⟩
    · rw [decide_eq_false q1, decide_eq_true q2]; rfl
    · rw [decide_eq_true q2]; rfl
  have e1 : wi64 (0 - d) = -d := by rw [show 0 - d = -d by omega]; exact wi64_id (by omega) (by omega)
  have e2 : Int.tmod (-d) 4 = (-d) % 4 := Int.tmod_eq_emod_of_nonneg (by omega)
  rw [decide_eq_false q1, decide_eq_false q2, e1, e2]
  simp only [cond_false]
  have hm : (-d) % 4 = 0 ∨ (-d) % 4 = 1 ∨ (-d) % 4 = 2 ∨ (-d) % 4 = 3 := by omega
  rcases hm with hm | hm | hm | hm <;> rw [hm]
  · exact .inl ⟨by omega, rfl, rfl⟩
  · exact .inr ⟨by omega, rfl, rfl⟩
  · exact .inr ⟨by omega, rfl, rfl⟩
  · exact .inl ⟨by omega, rfl, rfl⟩

theorem All_told {N : Nat} (hN : 1000000001 < N) {d : Int} (hd : Lst d) : ∃ R, Ris (Rd d) R ∧ Tame R ∧ classes_All.f N d = some (flat3 (R.filter prim), 0) ∧ parquetref11_All.f N d = some (flat3 (R.filter prim)) ∧ classes_Number.f N d = some (((R.filter prim).length : Int), 0) := by
  obtain ⟨R, r1, r2, r3, r4⟩ := all_told hN hd
  obtain ⟨_, h2, _⟩ | ⟨h1, _⟩ := check_iff N d (by have := hd.1; omega) (by have := hd.2.1; omega)
  · have hA : classes_All.f N d = some (flat3 (R.filter prim), 0) := by
      unfold classes_All.f
      rw [h2, r3]
      rfl
    refine ⟨R, r1, r2, hA, r4, ?_⟩
    unfold classes_Number.f
    rw [hA]
    simp only [Option.bind_some, len_flat3]
  · exact absurd hd h1

theorem All_bad {N : Nat} {d : Int} (hd0 : -9223372036854775808 ≤ d) (hd1 : d < 9223372036854775808) (hd : ¬ Lst d) : classes_All.f N d = some ([], 80) ∧ classes_Number.f N d = some (0, 80) ∧ classes_Check.f N d = some 80 ∧ parquetref11_Check.f N d = some 80 := by
  obtain ⟨h1, _⟩ | ⟨_, h2, h3⟩ := check_iff N d hd0 hd1
  · exact absurd h1 hd
  · have hA : classes_All.f N d = some ([], 80) := by
      unfold classes_All.f
      rw [h2]
      rfl
    refine ⟨hA, ?_, h2, h3⟩
    unfold classes_Number.f
    rw [hA]
    rfl

abbrev N0 : Nat := 8589934700
theorem number_of {d : Int} {l : List Int} (hd : Lst d) (h : parquetref11_All.f N0 d = some l) : classes_All.f N0 d = some (l, 0) ∧ classes_Number.f N0 d = some ((l.length / 3 : Int), 0) := by
  obtain ⟨R, r1, r2, r3, r4, r5⟩ := All_told (N := N0) (by decide) hd
  rw [r4] at h
  obtain rfl := Option.some.inj h
  exact ⟨r3, by rw [r5, len_flat3]⟩

theorem works_true : parquetlaw11_works.f N0 = some true := by
  have h1 := (number_of (d := -23) (l := [1, 1, 6, 2, -1, 3, 2, 1, 3]) ⟨by decide, by decide, by decide⟩ (by kernel_rfl)).2
  have h2 := (number_of (d := -163) (l := [1, 1, 41]) ⟨by decide, by decide, by decide⟩ (by kernel_rfl)).2
  obtain ⟨h, k1, k2, _⟩ := hur_told (N := N0) (by decide) (n := 12) (by decide) (by decide)
  have k3 : parquetref11_Hurwitz.f N0 12 = some 16 := by kernel_rfl
  rw [k3] at k2
  obtain rfl := Option.some.inj k2
  unfold parquetlaw11_works.f
  rw [h1, h2, k1]
  exact (by kernel_rfl : (classes_Check.f N0 (-2)).bind (fun r4 => some (r4 == 80)) = some true)

theorem same_loop (N : Nat) (l : List Int) {m : Nat} (hm : l.length = m * 3) (hm2 : m ≤ 45000) {T : Type} (k0 : Unit → Option T) (kr : Bool → Option T) : ∀ (n i : Nat), i ≤ m → m - i < n → parquetlaw11_same.l4 N n l l m i k0 kr = k0 ()
  | 0, i, _, h => by omega
  | n + 1, i, h1, h2 => by
    have e : ((l.length / 3 : Int)) = m := by omega
    rw [parquetlaw11_same.l4, e]
    by_cases hi : i < m
    · have w1 : wi64 ((i : Int) + 1) = ((i + 1 : Nat) : Int) := by rw [wi64_id (by omega) (by omega)]; omega
      simp only [decide_eq_true (show (i : Int) < m by omega), decide_eq_true (show (0 : Int) ≤ i by omega), cond_true, Bool.and_self, beq_self_eq_true, Bool.not_true, cond_false, w1]
      exact same_loop N l hm hm2 k0 kr n (i + 1) (by omega) (by omega)
    · rw [decide_eq_false (by omega)]
      rfl
theorem same_self {N : Nat} (hN : 45001 < N) (l : List Int) {m : Nat} (hm : l.length = m * 3) (hm2 : m ≤ 45000) : parquetlaw11_same.f N l l = some true := by
  unfold parquetlaw11_same.f
  have e : ((l.length / 3 : Int)) = m := by omega
  rw [e, show ((m : Int) != m) = false by simp, cond_false]
  have := same_loop N l hm hm2 (fun _ => some true) (fun y => some y) N 0 (by omega) (by omega)
  exact this

theorem put_loop (N : Nat) (x z : List Int) {T : Type} (K : List Int → List Int → Option T) (r : T) (m : Nat) (hm2 : m ≤ 45000) (hK : K x z = some r) : ∀ (n i : Nat) (y : List Int), y.length = m * 3 → i ≤ m → m - i < n → parquetlaw11_ClassLists.l13 N n x m i y z K = some r
  | 0, i, y, _, _, h => by omega
  | n + 1, i, y, hy, h1, h2 => by
    have e : ((y.length / 3 : Int)) = m := by omega
    rw [parquetlaw11_ClassLists.l13, e]
    by_cases hi : i < m
    · have w1 : wi64 ((i : Int) + 1) = ((i + 1 : Nat) : Int) := by rw [wi64_id (by omega) (by omega)]; omega
      simp only [decide_eq_true (show (i : Int) < m by omega), decide_eq_true (show (0 : Int) ≤ i by omega), cond_true, Bool.and_self, w1]
      exact put_loop N x z K r m hm2 hK n (i + 1) _ (by simp [hy]) (by omega) (by omega)
    · rw [decide_eq_false (by omega)]
      exact hK
end Go.Proofs.Ytifnooogklfifaa.Cls

namespace Go.Proofs.Ytifnooogklfifaa.Pure
open Go Go.Proofs.Ytifnooogklfifaa.Ev Go.Proofs.Ytifnooogklfifaa.Cls

theorem ClassLists (a1 : Int) (w1 : (Lit.int .i64 a1).wf = true) : ∃ N, parquetlaw11_ClassLists.f N a1 = some true := by
  refine ⟨N0, ?_⟩
  have hw := wf_i64 w1
  unfold parquetlaw11_ClassLists.f
  by_cases hd : Lst a1
  · obtain ⟨R, r1, r2, r3, r4, r5⟩ := All_told (N := N0) (by decide) hd
    obtain ⟨_, c1, c2⟩ | ⟨h1, _⟩ := check_iff N0 a1 hw.1 hw.2
    · have hl : (R.filter prim).length ≤ 45000 := by have := r2.len; have := List.length_filter_le prim R; omega
      have hfl := flat3_length (R.filter prim)
      have hs := same_self (N := N0) (by decide) _ hfl hl
      rw [r3, r4, r5, c1, c2, works_true]
      have z0 : ((0 : Int) != 0) = false := rfl
      simp only [Option.bind_some, z0, cond_false, Bool.not_true, hs, len_flat3, show (((R.filter prim).length : Int) != (R.filter prim).length) = false by simp]
      exact put_loop N0 _ _ _ true _ hl (by rw [hs]; rfl) N0 0 _ hfl (by omega) (by unfold N0; omega)
    · exact absurd hd h1
  · obtain ⟨h1, h2, h3, h4⟩ := All_bad (N := N0) hw.1 hw.2 hd
    rw [h1, h2, h3, h4, works_true]
    rfl

theorem ClassWeighs (a1 : Int) (w1 : (Lit.int .i64 a1).wf = true) : ∃ N, parquetlaw11_ClassWeighs.f N a1 = some true := by
  refine ⟨N0, ?_⟩
  have hw := wf_i64 w1
  unfold parquetlaw11_ClassWeighs.f
  rw [works_true]
  by_cases q1 : a1 < 0
  · have : classes_Hurwitz.f N0 a1 = some (0, 2) := by unfold classes_Hurwitz.f; rw [decide_eq_true q1]; rfl
    rw [this, decide_eq_true q1]; rfl
  by_cases q2 : a1 > 65536
  · have : classes_Hurwitz.f N0 a1 = some (0, 2) := by unfold classes_Hurwitz.f; rw [decide_eq_false q1, decide_eq_true q2]; rfl
    rw [this, decide_eq_false q1, decide_eq_true q2]; rfl
  obtain ⟨h, k1, k2, _⟩ := hur_told (N := N0) (by decide) (n := a1) (by omega) (by omega)
  rw [k1, k2, decide_eq_false q1, decide_eq_false q2]
  simp
end Go.Proofs.Ytifnooogklfifaa.Pure
