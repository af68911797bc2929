-- Plain laws of the row law09: CycleGoes.
import Derived.Test.YtlofhdoefjmabaaPf
namespace Go.Proofs.Ytlofhdoefjmabaa.Pure
open Go Go.Proofs.Ytlofhdoefjmabaa.Ev
set_option linter.unusedVariables false
set_option linter.unusedSimpArgs false

theorem eqL_iff : ∀ (a b : List Int), eqL a b = true ↔ a = b
  | [], [] => by simp [eqL]
  | [], _ :: _ => by simp [eqL]
  | _ :: _, [] => by simp [eqL]
  | a :: r, b :: s => by simp [eqL, eqL_iff r s]

theorem mpos_none : ∀ (l : List Int) (ks : List (List Int)) (i : Nat), (∀ k ∈ ks, k ≠ l) → mpos l ks i = none
  | _, [], _, _ => rfl
  | l, x :: r, i, h => by
    have h1 : eqL l x = false := by
      cases hq : eqL l x with
      | false => rfl
      | true => exact absurd ((eqL_iff l x).1 hq).symm (h x (by simp))
    simp only [mpos, h1, cond_false]
    exact mpos_none l r (i + 1) (fun k hk => h k (by simp [hk]))

def row3 (x : T3) : List Int := [x.1, x.2.1, x.2.2]
theorem row3_inj {x y : T3} (h : row3 x = row3 y) : x = y := by
  simp only [row3, List.cons.injEq, and_true] at h
  exact Prod.ext h.1 (Prod.ext h.2.1 h.2.2)
def keys (s : Int) (x : T3) : Nat → List (List Int)
  | 0 => []
  | k + 1 => keys s x k ++ [row3 (orb s x k)]
theorem keys_mem (s : Int) (x : T3) : ∀ (k : Nat) (l : List Int), l ∈ keys s x k → ∃ j, j < k ∧ l = row3 (orb s x j)
  | 0, l, h => by simp [keys] at h
  | k + 1, l, h => by
    simp only [keys, List.mem_append, List.mem_singleton] at h
    rcases h with h | h
    · obtain ⟨j, h1, h2⟩ := keys_mem s x k l h
      exact ⟨j, by omega, h2⟩
    · exact ⟨k, by omega, h⟩

theorem goes_go {N : Nat} (hN : 8589934600 < N) {d s a b c : Int} (hd : Cross d s) (hf : Good d a b c) {x : T3} (h : OKf d s x) {m : Nat} (hm : m ≤ 4096) (hr : Round s x m) : ∀ (n k : Nat) (vs : List Bool), k ≤ m → m - k < n → ∀ {R : Type} (K0 : Int → Int → Int → Int → List Int → Option R) (K : Bool → Option R),
    parquetlaw09_CycleGoes.l11 N n (m : Int) (m : Int) (k : Int) a b c (flat s x m) (keys s x k) vs K0 K = K0 (m : Int) a b c (flat s x m) := by
  intro n
  induction n with
  | zero => intro k _ _ h; omega
  | succ n ih =>
    intro k vs hk hn R K0 K
    rw [parquetlaw09_CycleGoes.l11]
    by_cases hlt : k < m
    · have hl := flat_len s x m
      have ho := orb_ok hd h k
      obtain ⟨g1, g2, g3⟩ := flat_get s x m k hlt
      have c1 : decide ((k : Int) < (m : Int)) = true := decide_eq_true (by omega)
      have c2 : decide (0 ≤ (k : Int)) = true := decide_eq_true (by omega)
      have c3 : decide ((k : Int) < ((flat s x m).length / 3 : Int)) = true := decide_eq_true (by omega)
      have ew : wi64 ((k : Int) + 1) = ((k + 1 : Nat) : Int) := by rw [wi64_id (by omega) (by omega)]; simp
      have hpos := hr.pos
      have e0 : ((m : Int) == 0) = false := by simp; omega
      have em : Int.tmod ((k + 1 : Nat) : Int) (m : Int) = (((k + 1) % m : Nat) : Int) := by
        rw [Int.tmod_eq_emod_of_nonneg (by omega)]; omega
      have hlt2 : (k + 1) % m < m := Nat.mod_lt _ hpos
      obtain ⟨f1, f2, f3⟩ := flat_get s x m ((k + 1) % m) hlt2
      have ho1 : orb s x ((k + 1) % m) = orb s x (k + 1) := by
        rcases Nat.lt_or_ge (k + 1) m with h1 | h1
        · rw [Nat.mod_eq_of_lt h1]
        · have : k + 1 = m := by omega
          rw [this, Nat.mod_self, hr.back]; rfl
      have c4 : decide (0 ≤ (((k + 1) % m : Nat) : Int)) = true := decide_eq_true (by omega)
      have c5 : decide ((((k + 1) % m : Nat) : Int) < ((flat s x m).length / 3 : Int)) = true := decide_eq_true (by omega)
      have hnx : cycle_Next.f N (orb s x k).1 (orb s x k).2.1 (orb s x k).2.2 = some ((stp s (orb s x k)).1, (stp s (orb s x k)).2.1, (stp s (orb s x k)).2.2, 0, -1, 1, nK s (orb s x k).2.1 (orb s x k).2.2, 0) := Next_good hN hd ho.1
      have hst := stp_ok hd ho
      have hbg : Good d (stp s (orb s x k)).2.2 (stp s (orb s x k)).2.1 (stp s (orb s x k)).1 := by
        obtain ⟨q1, q2, q3, q4, q5, q6, q7⟩ := hst.1
        refine ⟨q5, q6, q3, q4, q1, q2, ?_⟩
        rw [← q7]; grind
      have hnb := Next_good hN hd hbg
      have hbk := bk_stp hd ho
      have hrd := (reduced_model hN hd ho.1).2.2
      have hkey : mpos (row3 (orb s x k)) (keys s x k) 0 = none := mpos_none _ _ _ (fun l hl e => by
        obtain ⟨j, j1, j2⟩ := keys_mem s x k l hl
        exact hr.ne hd h j1 hlt (row3_inj (j2 ▸ e)))
      have hget : mgetB (row3 (orb s x k)) (keys s x k) vs = false := by simp only [mgetB, hkey]
      have hput : mputK (row3 (orb s x k)) (keys s x k) = keys s x (k + 1) := by simp [mputK, mhas, hkey, keys]
      have hsg : (decide ((orb s x k).1 > 0) == decide ((stp s (orb s x k)).1 > 0)) = false := by
        have := sign_step hd ho
        rw [beq_eq_false_iff_ne]
        intro e
        have e2 := decide_eq_decide.mp e
        have e3 : (stp s (orb s x k)).1 > 0 ↔ ¬ 0 < (orb s x k).1 := this
        rw [e3] at e2
        exact absurd e2 (by omega)
      have b1 : bk s (stp s (orb s x k)) = (nC s (stp s (orb s x k)).2.2 (stp s (orb s x k)).2.1 (stp s (orb s x k)).1, nB s (stp s (orb s x k)).2.1 (stp s (orb s x k)).1, (stp s (orb s x k)).1) := rfl
      rw [hbk] at b1
      have i1 : nC s (stp s (orb s x k)).2.2 (stp s (orb s x k)).2.1 (stp s (orb s x k)).1 = (orb s x k).1 := (congrArg (·.1) b1).symm
      have i2 : nB s (stp s (orb s x k)).2.1 (stp s (orb s x k)).1 = (orb s x k).2.1 := (congrArg (·.2.1) b1).symm
      rw [i1, i2] at hnb
      have ho2 : orb s x (k + 1) = stp s (orb s x k) := rfl
      have hb3 : ((stp s (orb s x k)).1 == (orb s x k).2.2) = true := by simp [stp]
      have hrow : [(orb s x k).1, (orb s x k).2.1, (orb s x k).2.2] = row3 (orb s x k) := rfl
      simp only [c1, c2, c3, ew, em, e0, c4, c5, Int.toNat_natCast, g1, g2, g3, f1, f2, f3, ho1, ho2, hnx, Option.bind_some, parquetlaw09_back.f, hnb, hrow, hget, hput, hrd, ho.2, decide_true, Bool.not_true, cond_true, cond_false, Bool.and_self, parquetlaw09_disc.f, disc_id ho.1, disc_id hf, bne_self_eq_false, Bool.not_false, beq_self_eq_true, hsg, hb3]
      exact ih (k + 1) _ (by omega) (by omega) K0 K
    · have c1 : decide ((k : Int) < (m : Int)) = false := decide_eq_false (by omega)
      rw [c1]; rfl

theorem half_go (N : Nat) {s a b c : Int} {x : T3} {m : Nat} (hm : m ≤ 4096) (hr : Round s x m) : ∀ (n k : Nat), k ≤ m → m - k < n → ∀ {R : Type} (K0 : Int → Int → Int → Int → List Int → Option R) (K : Bool → Option R),
    parquetlaw09_CycleGoes.l23 N n (m : Int) (m : Int) (k : Int) a b c (flat s x m) (flat s (orb s x (m / 2)) m) K0 K = K0 (m : Int) a b c (flat s x m) := by
  intro n
  induction n with
  | zero => intro k _ h; omega
  | succ n ih =>
    intro k hk hn R K0 K
    rw [parquetlaw09_CycleGoes.l23]
    by_cases hlt : k < m
    · have hl := flat_len s x m
      have hl2 := flat_len s (orb s x (m / 2)) m
      obtain ⟨g1, g2, g3⟩ := flat_get s (orb s x (m / 2)) m k hlt
      have c1 : decide ((k : Int) < (m : Int)) = true := decide_eq_true (by omega)
      have c2 : decide (0 ≤ (k : Int)) = true := decide_eq_true (by omega)
      have c3 : decide ((k : Int) < ((flat s (orb s x (m / 2)) m).length / 3 : Int)) = true := decide_eq_true (by omega)
      have ew : wi64 ((k : Int) + 1) = ((k + 1 : Nat) : Int) := by rw [wi64_id (by omega) (by omega)]; simp
      have hpos := hr.pos
      have e0 : ((m : Int) == 0) = false := by simp; omega
      have eh : wi64 (Int.tdiv (m : Int) 2) = ((m / 2 : Nat) : Int) := by
        rw [Int.tdiv_eq_ediv_of_nonneg (by omega), wi64_id (by omega) (by omega)]; omega
      have es : wi64 (((m / 2 : Nat) : Int) + (k : Int)) = ((m / 2 + k : Nat) : Int) := by
        rw [wi64_id (by omega) (by omega)]; omega
      have em : Int.tmod ((m / 2 + k : Nat) : Int) (m : Int) = (((m / 2 + k) % m : Nat) : Int) := by
        rw [Int.tmod_eq_emod_of_nonneg (by omega)]; omega
      have hlt2 : (m / 2 + k) % m < m := Nat.mod_lt _ hpos
      obtain ⟨f1, f2, f3⟩ := flat_get s x m ((m / 2 + k) % m) hlt2
      have ho1 : orb s x ((m / 2 + k) % m) = orb s (orb s x (m / 2)) k := by
        rw [← orb_add]
        rcases Nat.lt_or_ge (m / 2 + k) m with h1 | h1
        · rw [Nat.mod_eq_of_lt h1]
        · have e1 : (m / 2 + k) % m = m / 2 + k - m := by
            rw [Nat.mod_eq_sub_mod h1, Nat.mod_eq_of_lt (by omega)]
          rw [e1]
          have e2 : m / 2 + k = m + (m / 2 + k - m) := by omega
          conv => rhs; rw [e2]
          rw [hr.wrap]
      have c4 : decide (0 ≤ (((m / 2 + k) % m : Nat) : Int)) = true := decide_eq_true (by omega)
      have c5 : decide ((((m / 2 + k) % m : Nat) : Int) < ((flat s x m).length / 3 : Int)) = true := decide_eq_true (by omega)
      simp only [c1, c2, c3, ew, eh, es, em, e0, c4, c5, Int.toNat_natCast, g1, g2, g3, f1, f2, f3, ho1, decide_true, Bool.not_true, cond_true, cond_false, Bool.and_self, Bool.not_false, beq_self_eq_true]
      exact ih (k + 1) (by omega) (by omega) K0 K
    · have c1 : decide ((k : Int) < (m : Int)) = false := decide_eq_false (by omega)
      rw [c1]; rfl

theorem CycleGoes (a1 a2 a3 : Int) (w1 : (Lit.int .i64 a1).wf = true) (w2 : (Lit.int .i64 a2).wf = true) (w3 : (Lit.int .i64 a3).wf = true) : ∃ N, parquetlaw09_CycleGoes.f N a1 a2 a3 = some true := by
  refine ⟨8589934700, ?_⟩
  have hN : 8589934600 < 8589934700 := by decide
  have hw := works_true
  generalize 8589934700 = N at *
  obtain ⟨e, h1, h2, h3⟩ := check_model hN a1 a2 a3
  unfold parquetlaw09_CycleGoes.f
  rw [hw]
  by_cases he : e = 0
  · subst he
    obtain ⟨d, s, hd, hg⟩ := h3 rfl
    obtain ⟨x, hx, ⟨p, q, r, t, hred⟩, ⟨m, m1, m2, m3, m4⟩ | ⟨m1, m2⟩⟩ := cycle_exact hN hd hg
    · have hl := flat_len s x m
      have hpos := m2.pos
      have hev := m2.even hd hx
      rw [m4]
      have e0 : ((flat s x m).length / 3 : Int) = (m : Int) := by omega
      have c1 : ((m : Int) == 0) = false := by simp; omega
      have c2 : decide ((m : Int) > 4096) = false := decide_eq_false (by omega)
      have c3 : (Int.tmod (m : Int) 2 != 0) = false := by
        have : Int.tmod (m : Int) 2 = 0 := by rw [Int.tmod_eq_emod_of_nonneg (by omega)]; omega
        rw [this]; rfl
      have eh : wi64 (Int.tdiv (m : Int) 2) = ((m / 2 : Nat) : Int) := by
        rw [Int.tdiv_eq_ediv_of_nonneg (by omega), wi64_id (by omega) (by omega)]; omega
      have em1 : wi64 ((m : Int) - 1) = ((m - 1 : Nat) : Int) := by rw [wi64_id (by omega) (by omega)]; omega
      have k1 := goes_go (R := Bool) hN hd hg hx m1 m2 N 0 [] (by omega) (by omega)
      have e00 : ((0 : Nat) : Int) = 0 := rfl
      rw [e00] at k1
      simp only [Option.bind_some, Bool.not_true, cond_false, bne_self_eq_false, e0, c1, c2, c3]
      have hk0 : keys s x 0 = [] := rfl
      rw [hk0] at k1
      rw [k1]
      have hh : m / 2 < m := by omega
      obtain ⟨g1, g2, g3⟩ := flat_get s x m (m / 2) hh
      have c4 : decide (0 ≤ ((m / 2 : Nat) : Int)) = true := decide_eq_true (by omega)
      have c5 : decide (((m / 2 : Nat) : Int) < (m : Int)) = true := decide_eq_true (by omega)
      simp only [eh, c4, e0, c5, Bool.and_self, cond_true, Int.toNat_natCast, g1, g2, g3]
      have hy := orb_ok hd hx (m / 2)
      have hry := m2.turn hd hx (m / 2)
      obtain ⟨y, hy1, ⟨p', q', r', t', hred'⟩, hcase⟩ := cycle_exact hN hd hy.1
      have hyx : y = orb s x (m / 2) := by
        rw [reduce_fix hN hd hy] at hred'
        simp only [Option.some.injEq, Prod.mk.injEq] at hred'
        exact (Prod.ext hred'.1 (Prod.ext hred'.2.1 hred'.2.2.1)).symm
      subst hyx
      rcases hcase with ⟨m', n1, n2, n3, n4⟩ | ⟨n1, n2⟩
      · have hmm : m' = m := by
          rcases Nat.lt_trichotomy m' m with h | h | h
          · exact absurd n2.back (hry.least m' n2.pos h)
          · exact h
          · exact absurd hry.back (n2.least m hry.pos h)
        subst hmm
        have hl2 := flat_len s (orb s x (m' / 2)) m'
        have e2 : ((flat s (orb s x (m' / 2)) m').length / 3 : Int) = (m' : Int) := by omega
        have k2 := half_go (R := Bool) N (a := a1) (b := a2) (c := a3) m1 m2 N 0 (by omega) (by omega)
        rw [e00] at k2
        rw [n4]
        simp only [Option.bind_some, bne_self_eq_false, cond_false, e2]
        rw [k2]
        have pa : ∀ i, i < m' → cycle_Proper.f N a1 a2 a3 (orb s x i).1 (orb s x i).2.1 (orb s x i).2.2 = some (true, 0) := fun i hi => proper_at hN hd hx hred m1 m3 hi
        obtain ⟨u1, u2, u3⟩ := flat_get s x m' 0 (by omega)
        obtain ⟨v1, v2, v3⟩ := flat_get s x m' 1 (by omega)
        obtain ⟨w1, w2, w3⟩ := flat_get s x m' (m' - 1) (by omega)
        have z1 : decide ((0 : Int) < (m' : Int)) = true := decide_eq_true (by omega)
        have z2 : decide ((1 : Int) < (m' : Int)) = true := decide_eq_true (by omega)
        have z3 : decide (0 ≤ ((m' - 1 : Nat) : Int)) = true := decide_eq_true (by omega)
        have z4 : decide (((m' - 1 : Nat) : Int) < (m' : Int)) = true := decide_eq_true (by omega)
        have f0 : (flat s x m').getD 0 0 = (orb s x 0).1 := u1
        have f1 : (flat s x m').getD 1 0 = (orb s x 0).2.1 := u2
        have f2 : (flat s x m').getD 2 0 = (orb s x 0).2.2 := u3
        have f3 : (flat s x m').getD 3 0 = (orb s x 1).1 := v1
        have f4 : (flat s x m').getD 4 0 = (orb s x 1).2.1 := v2
        have f5 : (flat s x m').getD 5 0 = (orb s x 1).2.2 := v3
        simp only [em1, e0, z1, z2, z3, z4, f0, f1, f2, f3, f4, f5, Int.toNat_natCast, w1, w2, w3, pa 0 (by omega), pa 1 (by omega), pa (m' - 1) (by omega), cond_true, cond_false, Option.bind_some, Bool.not_true, bne_self_eq_false, Bool.and_self]
      · exact absurd (n1 m hry) (by omega)
    · rw [m2]
      rfl
  · have e1 : (e != 0) = true := by simpa using he
    have hc := (proper_refused (a' := 0) (b' := 0) (c' := 0) h1 he).2
    rw [hc]
    simp only [Option.bind_some, Bool.not_true, cond_false, e1, cond_true]
    by_cases h9 : e = 9
    · subst h9; rfl
    · have : (e == 9) = false := by simpa using h9
      rw [this, h1]
      simp

end Go.Proofs.Ytlofhdoefjmabaa.Pure
