-- Plain laws of the row law09: CycleRounds.
import Derived.Test.YtlofhdoefjmabaaPd
namespace Go.Proofs.Ytlofhdoefjmabaa.Pure
open Go Go.Proofs.Ytlofhdoefjmabaa.Ev
set_option linter.unusedVariables false
set_option linter.unusedSimpArgs false

theorem roomy_ok {n : Nat} (h : n ≤ 2000000) : roomy n 24 = true := by
  unfold roomy; exact decide_eq_true (by omega)

/-- The rounds from one form to itself, both ways. -/
theorem round_loops {N M : Nat} (hN : 8589934600 < N) (hM : 8589934600 < M) {d s : Int} (hd : Cross d s) (a b c : Int) : ∀ (n : Nat) (l : List Int) (x y z : Int), Good d x y z → ¬ (x = a ∧ y = b ∧ z = c) → l.length % 3 = 0 → 1 ≤ l.length → l.length / 3 ≤ 4096 → 4096 - l.length / 3 < n → ∃ (m : Bool) (L : List Int), L.length / 3 ≤ 4096 ∧ L.length % 3 = 0 ∧
    (∀ {R : Type} (K : Bool → List Int → Option R), cycle_round.l1000001 N n d s a b c l x y z K = K m L) ∧
    (∀ {R : Type} (K0 : List Int → Option R) (K : List Int → Bool → Option R), parquetref09_round.l3 M n a b c l x y z K0 K = if m then K L false else K0 L) := by
  intro n
  induction n with
  | zero => intro l x y z h hne h3 hp hl hf; omega
  | succ n ih =>
    intro l x y z h hne h3 hp hl hf
    have hn1 : ((x == a) && ((y == b) && (z == c))) = false := by
      cases hc : ((x == a) && ((y == b) && (z == c))) with
      | false => rfl
      | true => simp only [Bool.and_eq_true, beq_iff_eq] at hc; exact absurd ⟨hc.1, hc.2.1, hc.2.2⟩ hne
    by_cases hlen : l.length / 3 = 4096
    · have e1 : ((l.length / 3 : Int) == 4096) = true := by simp; omega
      refine ⟨true, l, hl, h3, fun K => ?_, fun K0 K => ?_⟩
      · rw [cycle_round.l1000001, e1]; rfl
      · rw [parquetref09_round.l3, e1, hn1]; rfl
    · have e1 : ((l.length / 3 : Int) == 4096) = false := by simp; omega
      have e2 : roomy ((l.length + 3) / 3) 24 = true := roomy_ok (by omega)
      obtain ⟨g, _⟩ := h.next hd
      have hl2 : (l ++ [x, y, z]).length = l.length + 3 := by simp
      by_cases hq : z = a ∧ nB s y z = b ∧ nC s x y z = c
      · have hq1 : ((z == a) && ((nB s y z == b) && (nC s x y z == c))) = true := by
          rw [Bool.and_eq_true, Bool.and_eq_true]; exact ⟨beq_iff_eq.mpr hq.1, beq_iff_eq.mpr hq.2.1, beq_iff_eq.mpr hq.2.2⟩
        have base : ∀ {R : Type} (K0 : List Int → Option R) (K : List Int → Bool → Option R), 1 ≤ n → parquetref09_round.l3 M n a b c (l ++ [x, y, z]) z (nB s y z) (nC s x y z) K0 K = K0 (l ++ [x, y, z]) := by
          intro R K0 K hn
          obtain ⟨n, rfl⟩ : ∃ m, n = m + 1 := ⟨n - 1, by omega⟩
          rw [parquetref09_round.l3, hq1]; rfl
        refine ⟨false, l ++ [x, y, z], by omega, by omega, fun K => ?_, fun K0 K => ?_⟩
        · rw [cycle_round.l1000001, e1, e2, next_model N hd h]
          simp only [cond_true, cond_false, Option.bind_some, hq1, Bool.not_true]
        · rw [parquetref09_round.l3, e1, e2, hn1, Next_model hM hd h]
          simp only [cond_true, cond_false, Option.bind_some, Bool.not_false]
          rw [base K0 K (by omega)]; rfl
      · have hq1 : ((z == a) && ((nB s y z == b) && (nC s x y z == c))) = false := by
          cases hc : ((z == a) && ((nB s y z == b) && (nC s x y z == c))) with
          | false => rfl
          | true => simp only [Bool.and_eq_true, beq_iff_eq] at hc; exact absurd ⟨hc.1, hc.2.1, hc.2.2⟩ hq
        obtain ⟨m, L, k1, k2, k3, k4⟩ := ih (l ++ [x, y, z]) z (nB s y z) (nC s x y z) g hq (by omega) (by omega) (by omega) (by omega)
        refine ⟨m, L, k1, k2, fun K => ?_, fun K0 K => ?_⟩
        · rw [cycle_round.l1000001, e1, e2, next_model N hd h]
          simp only [cond_true, cond_false, Option.bind_some, hq1, Bool.not_false]
          exact k3 K
        · rw [parquetref09_round.l3, e1, e2, hn1, Next_model hM hd h]
          simp only [cond_true, cond_false, Option.bind_some, Bool.not_false]
          exact k4 K0 K

theorem round_model {N : Nat} (hN : 8589934600 < N) {d s a b c : Int} (hd : Cross d s) (h : Good d a b c) : ∃ (m : Bool) (L : List Int), L.length / 3 ≤ 4096 ∧ L.length % 3 = 0 ∧ cycle_round.f N a b c = some (L, m) ∧ parquetref09_round.f N a b c = some (L, !m) := by
  obtain ⟨x, hr, r1, r2⟩ := root_model hN hd.d1 hd.d2
  have := hr.unique hd.root
  subst this
  obtain ⟨g, _⟩ := h.next hd
  have e2 : roomy (([] : List Int).length + 3) 24 = true := by decide
  by_cases hq : c = a ∧ nB x b c = b ∧ nC x a b c = c
  · have hq1 : ((c == a) && ((nB x b c == b) && (nC x a b c == c))) = true := by
      rw [Bool.and_eq_true, Bool.and_eq_true]; exact ⟨beq_iff_eq.mpr hq.1, beq_iff_eq.mpr hq.2.1, beq_iff_eq.mpr hq.2.2⟩
    refine ⟨false, [a, b, c], by simp, by simp, ?_, ?_⟩
    · unfold cycle_round.f cycle_round.s1000001 cycle_disc.f
      rw [disc_id h]
      simp only [Option.bind_some, r1, next_model N hd h, hq1]
      rfl
    · unfold parquetref09_round.f
      obtain ⟨n, rfl⟩ : ∃ m, N = m + 1 := ⟨N - 1, by omega⟩
      rw [Next_model hN hd h]
      simp only [Option.bind_some]
      rw [parquetref09_round.l3, hq1]; rfl
  · have hq1 : ((c == a) && ((nB x b c == b) && (nC x a b c == c))) = false := by
      cases hc : ((c == a) && ((nB x b c == b) && (nC x a b c == c))) with
      | false => rfl
      | true => simp only [Bool.and_eq_true, beq_iff_eq] at hc; exact absurd ⟨hc.1, hc.2.1, hc.2.2⟩ hq
    obtain ⟨m, L, k1, k2, k3, k4⟩ := round_loops hN hN hd a b c N [a, b, c] c (nB x b c) (nC x a b c) g hq (by simp) (by simp) (by simp) (by simp; omega)
    refine ⟨m, L, k1, k2, ?_, ?_⟩
    · unfold cycle_round.f cycle_round.s1000001 cycle_disc.f
      rw [disc_id h]
      simp only [Option.bind_some, r1, next_model N hd h, hq1]
      exact k3 _
    · unfold parquetref09_round.f
      rw [Next_model hN hd h]
      simp only [Option.bind_some]
      rw [k4]
      cases m <;> rfl

/-- Is a form in a list? Both ways. -/
theorem find_loops (N M : Nat) (L : List Int) (hL : L.length / 3 ≤ 4096) (w : Bool) (x y z : Int) : ∀ (n k : Nat), k ≤ L.length / 3 → L.length / 3 - k < n → ∃ r : Option Nat,
    (∀ {R : Type} (K0 : Unit → Option R) (K : Int → Option R), slices_Index___parquet_api_Binary_parquet_api_Binary_.l2 N n L (L.length / 3 : Int) (k : Int) x y z K0 K = match r with | some j => K (j : Int) | none => K0 ()) ∧
    (∀ {R : Type} (K0 : Bool → Option R) (K : Bool → Int → Option R), parquetref09_Proper.l7 M n L w (k : Int) x y z K0 K = match r with | some j => K true 0 | none => K0 w) := by
  intro n
  induction n with
  | zero => intro k _ h; omega
  | succ n ih =>
    intro k hk hn
    by_cases hlt : k < L.length / 3
    · have c1 : decide ((k : Int) < (L.length / 3 : Int)) = true := decide_eq_true (by omega)
      have c2 : decide (0 ≤ (k : Int)) = true := decide_eq_true (by omega)
      have e : ∀ u v : Int, (u == v) = (v == u) := fun u v => by simp [Bool.beq_comm]
      by_cases hq : ((x == (L.getD ((k : Int).toNat * 3) 0)) && ((y == (L.getD (((k : Int).toNat * 3) + 1) 0)) && (z == (L.getD (((k : Int).toNat * 3) + 2) 0)))) = true
      · refine ⟨some k, fun K0 K => ?_, fun K0 K => ?_⟩
        · rw [slices_Index___parquet_api_Binary_parquet_api_Binary_.l2, c1, c2, hq]; rfl
        · rw [parquetref09_Proper.l7, c1, c2, e _ x, e _ y, e _ z, hq]; rfl
      · have hq : _ = false := Bool.eq_false_iff.mpr hq
        obtain ⟨r, h1, h2⟩ := ih (k + 1) (by omega) (by omega)
        have ew : wi64 ((k : Int) + 1) = ((k + 1 : Nat) : Int) := by rw [wi64_id (by omega) (by omega)]; simp
        refine ⟨r, fun K0 K => ?_, fun K0 K => ?_⟩
        · rw [slices_Index___parquet_api_Binary_parquet_api_Binary_.l2, c1, c2, hq, ew]; exact h1 K0 K
        · rw [parquetref09_Proper.l7, c1, c2, e _ x, e _ y, e _ z, hq, ew]; exact h2 K0 K
    · have c1 : decide ((k : Int) < (L.length / 3 : Int)) = false := decide_eq_false (by omega)
      refine ⟨none, fun K0 K => ?_, fun K0 K => ?_⟩
      · rw [slices_Index___parquet_api_Binary_parquet_api_Binary_.l2, c1]; rfl
      · rw [parquetref09_Proper.l7, c1]; rfl

theorem same_loop (N : Nat) (L : List Int) (hL : L.length / 3 ≤ 4096) : ∀ (n k : Nat), k ≤ L.length / 3 → L.length / 3 - k < n → ∀ {R : Type} (K0 : Unit → Option R) (K : Bool → Option R), parquetlaw09_same.l4 N n L L (L.length / 3 : Int) (k : Int) K0 K = K0 () := by
  intro n
  induction n with
  | zero => intro k _ h; omega
  | succ n ih =>
    intro k hk hn R K0 K
    rw [parquetlaw09_same.l4]
    by_cases hlt : k < L.length / 3
    · have c1 : decide ((k : Int) < (L.length / 3 : Int)) = true := decide_eq_true (by omega)
      have c2 : decide (0 ≤ (k : Int)) = true := decide_eq_true (by omega)
      have ew : wi64 ((k : Int) + 1) = ((k + 1 : Nat) : Int) := by rw [wi64_id (by omega) (by omega)]; simp
      rw [c1, c2, ew]
      simp only [Bool.and_self, beq_self_eq_true, cond_true, Bool.not_true, cond_false]
      exact ih (k + 1) (by omega) (by omega) K0 K
    · have c1 : decide ((k : Int) < (L.length / 3 : Int)) = false := decide_eq_false (by omega)
      rw [c1]; rfl

theorem same_model {N : Nat} (hN : 8589934600 < N) (L : List Int) (hL : L.length / 3 ≤ 4096) : parquetlaw09_same.f N L L = some true := by
  unfold parquetlaw09_same.f
  simp only [bne_self_eq_false, cond_false]
  exact same_loop N L hL N 0 (by omega) (by omega) _ _

theorem wipe_loop (N : Nat) (A B : List Int) (m : Nat) (hm : m ≤ 4096) : ∀ (n k : Nat) (L : List Int), L.length / 3 = m → k ≤ m → m - k < n → ∀ {R : Type} (K : List Int → List Int → Option R), parquetlaw09_CycleRounds.l14 N n A (m : Int) (k : Int) L B K = K A B := by
  intro n
  induction n with
  | zero => intro k L _ _ h; omega
  | succ n ih =>
    intro k L hL hk hn R K
    rw [parquetlaw09_CycleRounds.l14]
    by_cases hlt : k < m
    · have c1 : decide ((k : Int) < (m : Int)) = true := decide_eq_true (by omega)
      have c3 : decide ((k : Int) < (L.length / 3 : Int)) = true := decide_eq_true (by omega)
      have c2 : decide (0 ≤ (k : Int)) = true := decide_eq_true (by omega)
      have ew : wi64 ((k : Int) + 1) = ((k + 1 : Nat) : Int) := by rw [wi64_id (by omega) (by omega)]; simp
      rw [c1, c2, c3, ew]
      simp only [Bool.and_self, cond_true]
      exact ih (k + 1) _ (by simpa using hL) (by omega) (by omega) K
    · have c1 : decide ((k : Int) < (m : Int)) = false := decide_eq_false (by omega)
      rw [c1]; rfl

theorem cycle_model {N : Nat} (hN : 8589934600 < N) {d s a b c : Int} (hd : Cross d s) (h : Good d a b c) : ∃ (L : List Int) (e : Int), L.length / 3 ≤ 4096 ∧ cycle_Cycle.f N a b c = some (L, e) ∧ parquetref09_Cycle.f N a b c = some (L, e) := by
  obtain ⟨a', b', c', p, q, r, t, g1, g2, g3, g4, g5⟩ := reduce_model hN hd h
  obtain ⟨m, L, k1, k2, k3, k4⟩ := round_model hN hd g3
  unfold cycle_Cycle.f parquetref09_Cycle.f
  rw [g1, g2]
  simp only [Option.bind_some, bne_self_eq_false, cond_false, k3, k4]
  cases m
  · exact ⟨L, 0, k1, rfl, rfl⟩
  · exact ⟨[], 9, by simp, rfl, rfl⟩

theorem proper_model {N : Nat} (hN : 8589934600 < N) {d s a b c d' s' a' b' c' : Int} (hd : Cross d s) (h : Good d a b c) (hd' : Cross d' s') (h' : Good d' a' b' c') : ∃ (r : Bool) (e : Int), cycle_Proper.f N a b c a' b' c' = some (r, e) ∧ parquetref09_Proper.f N a b c a' b' c' = some (r, e) := by
  obtain ⟨xa, xb, xc, _, _, _, _, x1, x2, x3, x4, _⟩ := reduce_model hN hd h
  obtain ⟨ya, yb, yc, _, _, _, _, y1, y2, y3, y4, _⟩ := reduce_model hN hd' h'
  unfold cycle_Proper.f parquetref09_Proper.f cycle_disc.f slices_Contains___parquet_api_Binary_parquet_api_Binary_.f slices_Index___parquet_api_Binary_parquet_api_Binary_.f
  rw [x1, x2, y1, y2, disc_id h, disc_id h']
  simp only [Option.bind_some, bne_self_eq_false, cond_false, disc_id x3, disc_id y3]
  by_cases hdd : d = d'
  · subst hdd
    obtain ⟨m, L, k1, k2, k3, k4⟩ := round_model hN hd x3
    obtain ⟨r, f1, f2⟩ := find_loops N N L k1 (!m) ya yb yc N 0 (by omega) (by omega)
    simp only [bne_self_eq_false, cond_false, k3, k4, Option.bind_some]
    have e0 : ((0 : Nat) : Int) = 0 := rfl
    rw [e0] at f1 f2
    rw [f1, f2]
    cases r with
    | some j =>
      have : decide ((j : Int) ≥ 0) = true := decide_eq_true (by omega)
      exact ⟨true, 0, by simp [this], rfl⟩
    | none =>
      have : decide ((-1 : Int) ≥ 0) = false := by decide
      cases m
      · exact ⟨false, 0, by simp [this], rfl⟩
      · exact ⟨false, 9, by simp [this], rfl⟩
  · have : (d != d') = true := by simpa using hdd
    exact ⟨false, 0, by simp [this], by simp [this]⟩

theorem proper_refused {N : Nat} {a b c a' b' c' e : Int} (h : cycle_Check.f N a b c = some e) (he : e ≠ 0) : cycle_Proper.f N a b c a' b' c' = some (false, e) ∧ cycle_Cycle.f N a b c = some ([], e) := by
  have hr := (refused (N := 0) h he).2.1
  have e1 : (e != 0) = true := by simpa using he
  unfold cycle_Proper.f cycle_Cycle.f
  rw [hr]
  simp [e1]

theorem CycleRounds (a1 a2 a3 b1 b2 b3 : Int) (w1 : (Lit.int .i64 a1).wf = true) (w2 : (Lit.int .i64 a2).wf = true) (w3 : (Lit.int .i64 a3).wf = true) (w4 : (Lit.int .i64 b1).wf = true) (w5 : (Lit.int .i64 b2).wf = true) (w6 : (Lit.int .i64 b3).wf = true) : ∃ N, parquetlaw09_CycleRounds.f N a1 a2 a3 b1 b2 b3 = some true := by
  refine ⟨8589934700, ?_⟩
  have hN : 8589934600 < 8589934700 := by decide
  have hw := works_true
  generalize 8589934700 = N at *
  obtain ⟨e, h1, h2, h3⟩ := check_model hN a1 a2 a3
  obtain ⟨e', h1', h2', h3'⟩ := check_model hN b1 b2 b3
  unfold parquetlaw09_CycleRounds.f
  rw [h2]
  by_cases he : e = 0
  · subst he
    obtain ⟨d, s, hd, hg⟩ := h3 rfl
    obtain ⟨L, f, l1, l2, l3⟩ := cycle_model hN hd hg
    have hs := same_model hN L l1
    have wl : ∀ {R : Type} (K : List Int → List Int → Option R), parquetlaw09_CycleRounds.l14 N N L (L.length / 3 : Int) 0 L L K = K L L := fun K => by
      have := wipe_loop N L L (L.length / 3) l1 N 0 L rfl (by omega) (by omega) K
      simpa using this
    rw [l2, l3, h2']
    by_cases he' : e' = 0
    · subst he'
      obtain ⟨d', s', hd', hg'⟩ := h3' rfl
      obtain ⟨r, g, p1, p2⟩ := proper_model hN hd hg hd' hg'
      rw [p1, p2, hw]
      simp [hs, wl]
    · have e1 : (e' != 0) = true := by simpa using he'
      have e2 : (e' == 0) = false := by simpa using he'
      have hr := (refused (N := 0) h1' he').2.1
      obtain ⟨xa, xb, xc, _, _, _, _, x1, _⟩ := reduce_model hN hd hg
      have hp : cycle_Proper.f N a1 a2 a3 b1 b2 b3 = some (false, e') := by
        unfold cycle_Proper.f
        rw [x1, hr]
        simp [e1]
      rw [hp, hw]
      simp [e2, hs, wl]
  · have e1 : (e != 0) = true := by simpa using he
    have e2 : (e == 0) = false := by simpa using he
    obtain ⟨p1, p2⟩ := proper_refused (a' := b1) (b' := b2) (c' := b3) h1 he
    have hs := same_model hN [] (by simp)
    have wl : ∀ {R : Type} (K : List Int → List Int → Option R), parquetlaw09_CycleRounds.l14 N N [] 0 0 [] [] K = K [] [] := fun K => by
      have := wipe_loop N [] [] 0 (by omega) N 0 [] rfl (by omega) (by omega) K
      simpa using this
    rw [p1, p2, hw]
    simp [e2, hs, wl]

end Go.Proofs.Ytlofhdoefjmabaa.Pure
