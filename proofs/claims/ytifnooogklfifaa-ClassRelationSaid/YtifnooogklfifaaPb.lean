-- Plain laws of the row law11: the document's list of reduced forms.
import Derived.Test.YtifnooogklfifaaPa
import Derived.Test.YtifnooogklfifaaFh
namespace Go.Proofs.Ytifnooogklfifaa.Cls
open Go Go.Proofs.Ytifnooogklfifaa.Ev
open Go.Proofs.Ytifnooogklfifaa.Pure (wi64_id)
set_option linter.unusedVariables false
set_option linter.unusedSimpArgs false

theorem Rd.iff {d a b c : Int} (ha : 0 < a) (h1 : -a < b) (h2 : b ≤ a) : Rd d a b c ↔ ((b * b - d) % (4 * a) = 0 ∧ c = (b * b - d) / (4 * a) ∧ (a < c ∨ (a = c ∧ 0 ≤ b))) := by
  constructor
  · intro h
    have e : b * b - d = 4 * a * c := by have := h.eq; omega
    refine ⟨by rw [e, Int.mul_emod_right], ?_, h.last⟩
    rw [e, Int.mul_ediv_cancel_left _ (by omega)]
  · rintro ⟨k1, k2, k3⟩
    have e := Int.mul_ediv_add_emod (b * b - d) (4 * a)
    rw [k1, ← k2] at e
    exact ⟨by omega, ha, h1, h2, k3⟩

theorem sq_small {b M : Int} (h1 : -M ≤ b) (h2 : b ≤ M) : 0 ≤ b * b ∧ b * b ≤ M * M := by
  refine ⟨?_, sq_abs_le h1 h2⟩
  rcases Int.le_total 0 b with h | h
  · exact Int.mul_nonneg h h
  · have := Int.mul_nonneg (show 0 ≤ -b by omega) (show 0 ≤ -b by omega)
    have e : -b * -b = b * b := by grind
    omega

theorem flat3_snoc (R : List R3) (a b c : Int) : flat3 R ++ [a, b, c] = flat3 (R ++ [(a, b, c)]) := by rw [flat3_append]; rfl
theorem roomy_flat {R : List R3} (h : (R.length : Int) ≤ 60000) : roomy (((flat3 R).length + 3) / 3) 24 = true := by
  rw [flat3_length]
  simp only [roomy, decide_eq_true_eq]
  omega

/-- What the document's list has of a row's first part. -/
def Up (d a b : Int) (x y z : Int) : Prop := Rd d x y z ∧ (x < a ∨ (x = a ∧ y < b))

theorem forms_in (N : Nat) {d a : Int} (hd : -65536 ≤ d) (hd0 : d < 0) (ha : 0 < a) (ha2 : a ≤ 147) : ∀ (n : Nat) (b : Int) (R : List R3), 1 - a ≤ b → b ≤ a + 1 → a + 1 - b < n → Ris (Up d a b) R → (R.length : Int) ≤ 300 * (a - 1) + (b + a) →
    ∃ R', Ris (Up d a (a + 1)) R' ∧ (R'.length : Int) ≤ 300 * a ∧ ∀ {T : Type} (K : Int → Int → List Int → Option T), parquetref11_Forms.l6 N n d a b (flat3 R) K = K d a (flat3 R')
  | 0, b, R, _, _, h, _, _ => by omega
  | n + 1, b, R, h1, h2, h3, hR, hl => by
    by_cases hb : b ≤ a
    · have hs := sq_small (b := b) (M := 147) (by omega) (by omega)
      have e1 : wi64 (b * b) = b * b := wi64_id (by omega) (by omega)
      have e2 : wi64 (b * b - d) = b * b - d := wi64_id (by omega) (by omega)
      have e3 : wi64 (4 * a) = 4 * a := wi64_id (by omega) (by omega)
      have e4 : wi64 (b + 1) = b + 1 := wi64_id (by omega) (by omega)
      have n0 : 0 ≤ b * b - d := by omega
      have e5 : Int.tmod (b * b - d) (4 * a) = (b * b - d) % (4 * a) := Int.tmod_eq_emod_of_nonneg n0
      have hq0 : 0 ≤ (b * b - d) / (4 * a) := Int.ediv_nonneg n0 (by omega)
      have hq1 : (b * b - d) / (4 * a) ≤ b * b - d := Int.ediv_le_self _ n0
      have e6 : wi64 (Int.tdiv (b * b - d) (4 * a)) = (b * b - d) / (4 * a) := by
        rw [Int.tdiv_eq_ediv_of_nonneg n0]; exact wi64_id (by omega) (by omega)
      have c0 : decide (b ≤ a) = true := decide_eq_true hb
      have c1 : (!(4 * a == 0)) = true := by simp; omega
      have hiff := fun c => Rd.iff (d := d) (c := c) ha (show -a < b by omega) hb
      have hnext : ∀ R', Ris (Up d a (b + 1)) R' → (R'.length : Int) ≤ 300 * (a - 1) + (b + 1 + a) → ∃ R'', Ris (Up d a (a + 1)) R'' ∧ (R''.length : Int) ≤ 300 * a ∧ ∀ {T : Type} (K : Int → Int → List Int → Option T), parquetref11_Forms.l6 N n d a (b + 1) (flat3 R') K = K d a (flat3 R'') :=
        fun R' k1 k2 => forms_in N hd hd0 ha ha2 n (b + 1) R' (by omega) (by omega) (by omega) k1 k2
      have hskip : (∀ c, ¬ Rd d a b c) → Ris (Up d a (b + 1)) R := fun hno => hR.congr fun x y z => by
        unfold Up
        constructor
        · rintro ⟨k1, k2⟩; exact ⟨k1, by omega⟩
        · rintro ⟨k1, k2⟩
          refine ⟨k1, ?_⟩
          rcases k2 with k2 | ⟨rfl, k2⟩
          · exact .inl k2
          · by_cases hy : y = b
            · subst hy; exact absurd k1 (hno z)
            · exact .inr ⟨rfl, by omega⟩
      have hput : Rd d a b ((b * b - d) / (4 * a)) → Ris (Up d a (b + 1)) (R ++ [(a, b, (b * b - d) / (4 * a))]) := fun hq => (hR.add (a := a) (b := b) (c := (b * b - d) / (4 * a)) (fun x y z hx => by
          unfold lt3; simp only; have := hx.2; omega)).congr fun x y z => by
        unfold Up
        constructor
        · rintro (⟨k1, k2⟩ | ⟨rfl, rfl, rfl⟩)
          · exact ⟨k1, by omega⟩
          · exact ⟨hq, by omega⟩
        · rintro ⟨k1, k2⟩
          rcases k2 with k2 | ⟨rfl, k2⟩
          · exact .inl ⟨k1, .inl k2⟩
          · by_cases hy : y = b
            · subst hy
              exact .inr ⟨rfl, rfl, ((hiff z).1 k1).2.1⟩
            · exact .inl ⟨k1, .inr ⟨rfl, by omega⟩⟩
      have hroom := roomy_flat (R := R) (by omega)
      simp only [parquetref11_Forms.l6, c0, cond_true, e1, e2, e3, e4, e5, e6, c1, hroom, flat3_snoc]
      by_cases hm : (b * b - d) % (4 * a) = 0
      · have c2 : ((b * b - d) % (4 * a) != 0) = false := by simp [hm]
        rw [c2]
        simp only [cond_false]
        by_cases hc : (b * b - d) / (4 * a) > a
        · obtain ⟨R'', r1, r2, r3⟩ := hnext _ (hput ((hiff _).2 ⟨hm, rfl, .inl hc⟩)) (by simp; omega)
          refine ⟨R'', r1, r2, fun K => ?_⟩
          rw [decide_eq_true hc]
          exact r3 K
        · by_cases hc2 : (b * b - d) / (4 * a) = a
          · by_cases hb0 : b ≥ 0
            · obtain ⟨R'', r1, r2, r3⟩ := hnext _ (hput ((hiff _).2 ⟨hm, rfl, .inr ⟨hc2.symm, hb0⟩⟩)) (by simp; omega)
              refine ⟨R'', r1, r2, fun K => ?_⟩
              rw [decide_eq_false hc, beq_iff_eq.mpr hc2, decide_eq_true hb0]
              exact r3 K
            · obtain ⟨R'', r1, r2, r3⟩ := hnext _ (hskip fun c hq => by have := (hiff c).1 hq; omega) (by omega)
              refine ⟨R'', r1, r2, fun K => ?_⟩
              rw [decide_eq_false hc, beq_iff_eq.mpr hc2, decide_eq_false hb0]
              exact r3 K
          · obtain ⟨R'', r1, r2, r3⟩ := hnext _ (hskip fun c hq => by have := (hiff c).1 hq; omega) (by omega)
            refine ⟨R'', r1, r2, fun K => ?_⟩
            rw [decide_eq_false hc, beq_eq_false_iff_ne.mpr hc2]
            exact r3 K
      · have c2 : ((b * b - d) % (4 * a) != 0) = true := by simp [hm]
        rw [c2]
        obtain ⟨R'', r1, r2, r3⟩ := hnext _ (hskip fun c hq => hm ((hiff c).1 hq).1) (by omega)
        exact ⟨R'', r1, r2, fun K => r3 K⟩
    · have e : b = a + 1 := by omega
      subst e
      refine ⟨R, hR, by omega, fun K => ?_⟩
      rw [parquetref11_Forms.l6, decide_eq_false hb]
      rfl

theorem forms_out {N : Nat} (hN : 1000 < N) {d : Int} (hd : -65536 ≤ d) (hd0 : d < 0) : ∀ (n : Nat) (a : Int) (R : List R3), 1 ≤ a → a ≤ 148 → 149 - a < n → Ris (Up d a (-a)) R → (R.length : Int) ≤ 300 * (a - 1) →
    ∃ R', Ris (Rd d) R' ∧ (R'.length : Int) ≤ 45000 ∧ ∀ {T : Type} (K : List Int → Option T), parquetref11_Forms.l3 N n d a (flat3 R) K = K (flat3 R')
  | 0, a, R, _, _, h, _, _ => by omega
  | n + 1, a, R, h1, h2, h3, hR, hl => by
    have hs := sq_small (b := a) (M := 148) (by omega) (by omega)
    have e0 : 3 * a * a = 3 * (a * a) := by grind
    have e1 : wi64 (3 * a) = 3 * a := wi64_id (by omega) (by omega)
    have e2 : wi64 (3 * a * a) = 3 * a * a := wi64_id (by omega) (by omega)
    have e3 : wi64 (0 - d) = -d := by rw [show 0 - d = -d by omega]; exact wi64_id (by omega) (by omega)
    have e4 : wi64 (1 - a) = 1 - a := wi64_id (by omega) (by omega)
    have e5 : wi64 (a + 1) = a + 1 := wi64_id (by omega) (by omega)
    by_cases hc : 3 * a * a ≤ -d
    · have ha : a ≤ 147 := small_of_sq (by omega) (by omega)
      obtain ⟨R1, r1, r2, r3⟩ := forms_in N hd hd0 (show 0 < a by omega) ha N (1 - a) R (by omega) (by omega) (by omega) (hR.congr fun x y z => by
        unfold Up
        constructor
        · rintro ⟨k1, k2⟩; exact ⟨k1, by omega⟩
        · rintro ⟨k1, k2⟩; exact ⟨k1, by have := k1.lo; omega⟩) (by omega)
      obtain ⟨R2, s1, s2, s3⟩ := forms_out hN hd hd0 n (a + 1) R1 (by omega) (by omega) (by omega) (r1.congr fun x y z => by
        unfold Up
        constructor
        · rintro ⟨k1, k2⟩; exact ⟨k1, by omega⟩
        · rintro ⟨k1, k2⟩; exact ⟨k1, by have := k1.lo; have := k1.hi; omega⟩) (by omega)
      refine ⟨R2, s1, s2, fun K => ?_⟩
      rw [parquetref11_Forms.l3, e1, e2, e3, decide_eq_true hc, e4, cond_true, r3]
      simp only [e5]
      exact s3 K
    · refine ⟨R, hR.congr fun x y z => ⟨fun h => h.1, fun h => ⟨h, .inl ?_⟩⟩, by omega, fun K => ?_⟩
      · have h4 := h.three
        have e6 : 3 * x * x = 3 * (x * x) := by grind
        rcases Int.lt_or_le x a with h5 | h5
        · exact h5
        · have := sq_le (x := a) (y := x) (by omega) h5; omega
      · rw [parquetref11_Forms.l3, e1, e2, e3, decide_eq_false hc]
        rfl

theorem forms_told {N : Nat} (hN : 1000 < N) {d : Int} (hd : -65536 ≤ d) (hd0 : d < 0) : ∃ R, Ris (Rd d) R ∧ (R.length : Int) ≤ 45000 ∧ parquetref11_Forms.f N d = some (flat3 R) := by
  obtain ⟨R, r1, r2, r3⟩ := forms_out hN hd hd0 N 1 [] (by omega) (by omega) (by omega) ⟨.nil, fun x => by
    simp only [List.not_mem_nil, false_iff]
    rintro ⟨h, h2⟩
    have := h.pos; have := h.lo; omega⟩ (by simp)
  refine ⟨R, r1, r2, ?_⟩
  unfold parquetref11_Forms.f
  exact r3 _

/-- One rising list. -/
theorem Ris.one {S : Int → Int → Int → Prop} {R R' : List R3} (h : Ris S R) (k : Ris S R') : R = R' := by
  have p : R.Perm R' := (List.perm_ext_iff_of_nodup h.nodup k.nodup).mpr fun x => by rw [h.mem, k.mem]
  exact (srt3_unique p h.sorted).trans (srt3_unique (List.Perm.refl _) k.sorted).symm
end Go.Proofs.Ytifnooogklfifaa.Cls
