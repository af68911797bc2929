-- Plain laws of the row law01: division by numbers of many digits.
import Derived.Test.YtifnooogklfifaaNm
import Derived.KernelRfl
namespace Go.Proofs.Ytifnooogklfifaa.NatL
open Go Go.Proofs.Ytifnooogklfifaa.Ev
set_option linter.unusedVariables false
set_option linter.unusedSimpArgs false

theorem two32 : (2 : Int) ^ 32 = 4294967296 := by decide
theorem digs_mul {x y : Int} (x0 : 0 ≤ x) (x1 : x < (4294967296 : Int)) (y0 : 0 ≤ y) (y1 : y < (4294967296 : Int)) : 0 ≤ x * y ∧ x * y ≤ 18446744065119617025 := by
  have h := Int.mul_le_mul (show x ≤ 4294967295 by omega) (show y ≤ 4294967295 by omega) y0 (by decide)
  exact ⟨Int.mul_nonneg x0 y0, by omega⟩
theorem drop_set {l : List Int} {i k : Nat} (h : i < k) (x : Int) : (l.set i x).drop k = l.drop k := List.drop_set_of_lt h

/-- Takes d times v away. -/
theorem away_loop (N : Nat) {R : Type} (off : Nat) (v : List Int) (hv : Dig (4294967296 : Int) v) (hvl : v.length ≤ 100000000) (d : Int) (d0 : 0 ≤ d) (d1 : d < (4294967296 : Int)) (K0 : Int → List Int → Option R) : ∀ (n i : Nat) (c w : Int) (u : List Int), Dig (4294967296 : Int) u → off + (v.length + 1) ≤ u.length → u.length ≤ 1000000000 → i ≤ v.length + 1 → v.length + 1 - i < n → 0 ≤ c → c < (4294967296 : Int) → 0 ≤ w → w ≤ 1 → (i = v.length + 1 → c = 0) →
    ∃ u' w', Dig (4294967296 : Int) u' ∧ u'.length = u.length ∧ 0 ≤ w' ∧ w' ≤ 1 ∧ nv (4294967296 : Int) u' = nv (4294967296 : Int) u - (4294967296 : Int) ^ (off + i) * (c + w) - (4294967296 : Int) ^ (off + i) * (d * nv (4294967296 : Int) (v.drop i)) + (4294967296 : Int) ^ (off + (v.length + 1)) * w' ∧ u'.drop (off + (v.length + 1)) = u.drop (off + (v.length + 1)) ∧
      nat_away.l3 N n off (v.length + 1) v d c w ((v.length + 1 : Nat) : Int) (i : Int) u K0 = K0 w' u' := by
  intro n
  induction n with
  | zero => intro i c w u _ _ _ _ h; omega
  | succ n ih =>
    intro i c w u hu hul hul2 hi hn c0 c1 w0 w1 hc
    rw [nat_away.l3]
    by_cases hil : i < v.length + 1
    · have e0 : decide ((i : Int) < ((v.length + 1 : Nat) : Int)) = true := decide_eq_true (by omega)
      have e1 : (decide (0 ≤ (i : Int)) && decide ((i : Int) < ((v.length + 1 : Nat) : Int))) = true := by simp; omega
      have e2 : (i : Int).toNat = i := by omega
      have e3 : wi64 ((i : Int) + 1) = ((i + 1 : Nat) : Int) := by rw [wi64_id (by omega) (by omega)]; omega
      have ha := hu.get (by decide) (off + i)
      generalize hae : u.getD (off + i) 0 = a at ha
      have go : ∀ t dv : Int, 0 ≤ t → t ≤ 18446744073709551615 → t = c + d * dv → nv (4294967296 : Int) (v.drop i) = dv + (4294967296 : Int) * nv (4294967296 : Int) (v.drop (i + 1)) → (i + 1 = v.length + 1 → t < (4294967296 : Int)) →
          ∀ u1, u1 = u.set (off + i) ((a - t % (4294967296 : Int) - w) % (4294967296 : Int)) →
          ∃ u' w', Dig (4294967296 : Int) u' ∧ u'.length = u.length ∧ 0 ≤ w' ∧ w' ≤ 1 ∧ nv (4294967296 : Int) u' = nv (4294967296 : Int) u - (4294967296 : Int) ^ (off + i) * (c + w) - (4294967296 : Int) ^ (off + i) * (d * nv (4294967296 : Int) (v.drop i)) + (4294967296 : Int) ^ (off + (v.length + 1)) * w' ∧ u'.drop (off + (v.length + 1)) = u.drop (off + (v.length + 1)) ∧
            nat_away.l3 N n off (v.length + 1) v d (t / (4294967296 : Int)) (if a < t % (4294967296 : Int) + w then 1 else 0) ((v.length + 1 : Nat) : Int) ((i + 1 : Nat) : Int) u1 K0 = K0 w' u' := by
        intro t dv t0 t1 ht hdr hlast u1 hu1
        subst hu1
        obtain ⟨u', w', g1, g2, g3, g4, g5, g6, g7⟩ := ih (i + 1) (t / (4294967296 : Int)) (if a < t % (4294967296 : Int) + w then 1 else 0) (u.set (off + i) ((a - t % (4294967296 : Int) - w) % (4294967296 : Int))) (hu.set (off + i) (by omega) (by omega)) (by simp; omega) (by simpa using hul2) (by omega) (by omega) (by omega) (by omega) (by split <;> omega) (by split <;> omega) (fun h => by have := hlast h; omega)
        refine ⟨u', w', g1, by simpa using g2, g3, g4, ?_, by rw [g6, drop_set (by omega)], g7⟩
        rw [g5, nv_set (4294967296 : Int) _ u (off + i) (by omega), hae, hdr]
        have hx : (a - t % (4294967296 : Int) - w) % (4294967296 : Int) = a - t % (4294967296 : Int) - w + (4294967296 : Int) * (if a < t % (4294967296 : Int) + w then 1 else 0) := by split <;> omega
        have htt : t = t % (4294967296 : Int) + (4294967296 : Int) * (t / (4294967296 : Int)) := by omega
        rw [hx]
        generalize (if a < t % (4294967296 : Int) + w then (1 : Int) else 0) = z at *
        have hp : (4294967296 : Int) ^ (off + (i + 1)) = (4294967296 : Int) ^ (off + i) * (4294967296 : Int) := by rw [← Nat.add_assoc, Int.pow_succ]
        rw [hp]
        generalize (4294967296 : Int) ^ (off + i) = P at *
        generalize nv (4294967296 : Int) (v.drop (i + 1)) = V1 at *
        generalize (4294967296 : Int) ^ (off + (v.length + 1)) * w' = Q at *
        generalize t % (4294967296 : Int) = lo at *
        generalize t / (4294967296 : Int) = hi' at *
        have hcd : c = lo + (4294967296 : Int) * hi' - d * dv := by omega
        rw [hcd]
        grind
      rw [e1, e0, e2, e3]
      simp only [cond_true, hae]
      by_cases hiv : i < v.length
      · have f0 : decide ((i : Int) < (v.length : Int)) = true := decide_eq_true (by omega)
        have f1 : (decide (0 ≤ (i : Int)) && decide ((i : Int) < (v.length : Int))) = true := by simp; omega
        have hvd := hv.get (by decide) i
        generalize hve : v.getD i 0 = dv at hvd
        obtain ⟨m1, m2⟩ := digs_mul hvd.1 hvd.2 d0 d1
        have ew : wu64 (c + wu64 (wu64 dv * wu64 d)) = c + dv * d := by
          rw [wu64_id hvd.1 (by omega), wu64_id d0 (by omega), wu64_id m1 (by omega), wu64_id (by omega) (by omega)]
        rw [f1, f0]
        simp only [cond_true, hve, ew]
        rw [wu32_mod, fdiv_pow, two32, sub32_model N ha.1 ha.2 (by omega) (by omega) w0 w1]
        simp only [Option.bind_some]
        exact go (c + dv * d) dv (by omega) (by omega) (by rw [Int.mul_comm dv d]) (by rw [nv_drop (4294967296 : Int) v i hiv, hve]) (fun h => by omega) _ rfl
      · have f0 : decide ((i : Int) < (v.length : Int)) = false := decide_eq_false (by omega)
        have hz : v.drop i = [] := List.drop_eq_nil_iff.mpr (by omega)
        have hz2 : v.drop (i + 1) = [] := List.drop_eq_nil_iff.mpr (by omega)
        rw [f0]
        simp only [cond_false]
        rw [wu32_mod, fdiv_pow, two32, sub32_model N ha.1 ha.2 (by omega) (by omega) w0 w1]
        simp only [Option.bind_some]
        exact go c 0 c0 (by omega) (by omega) (by rw [hz, hz2]; simp [nv]) (fun h => c1) _ rfl
    · have hie : i = v.length + 1 := by omega
      have e0 : decide ((i : Int) < ((v.length + 1 : Nat) : Int)) = false := decide_eq_false (by omega)
      have hz : v.drop i = [] := List.drop_eq_nil_iff.mpr (by omega)
      have := hc hie
      subst this
      rw [e0]
      refine ⟨u, w, hu, rfl, w0, w1, ?_, rfl, rfl⟩
      rw [hz, hie]
      simp only [nv, Int.mul_zero, Int.sub_zero, Int.zero_add]
      omega

theorem away_model {N : Nat} (hN : 1000000001 < N) {off : Nat} {v : List Int} (hv : Dig (4294967296 : Int) v) (hvl : v.length ≤ 100000000) {d : Int} (d0 : 0 ≤ d) (d1 : d < (4294967296 : Int)) {u : List Int} (hu : Dig (4294967296 : Int) u) (hul : off + (v.length + 1) ≤ u.length) (hul2 : u.length ≤ 1000000000) :
    ∃ u' w', Dig (4294967296 : Int) u' ∧ u'.length = u.length ∧ 0 ≤ w' ∧ w' ≤ 1 ∧ nv (4294967296 : Int) u' = nv (4294967296 : Int) u - (4294967296 : Int) ^ off * (d * nv (4294967296 : Int) v) + (4294967296 : Int) ^ (off + (v.length + 1)) * w' ∧ u'.drop (off + (v.length + 1)) = u.drop (off + (v.length + 1)) ∧
      nat_away.f N off (v.length + 1) v d u = some (w' != 0, u') := by
  obtain ⟨u', w', g1, g2, g3, g4, g5, g6, g7⟩ := away_loop N off v hv hvl d d0 d1 (fun y19 y20 => some (y19 != 0, y20)) N 0 0 0 u hu hul hul2 (by omega) (by omega) (by omega) (by decide) (by omega) (by omega) (fun h => rfl)
  refine ⟨u', w', g1, g2, g3, g4, ?_, g6, ?_⟩
  · rw [g5]; simp
  · unfold nat_away.f
    exact g7

/-- One time too many: v once back. -/
theorem back_loop (N : Nat) {R : Type} (off : Nat) (v : List Int) (hv : Dig (4294967296 : Int) v) (hvl : v.length ≤ 100000000) (s j : Int) (out : List Int) (K0 : Int → Int → Int → List Int → List Int → List Int → Option R) : ∀ (n i : Nat) (c : Int) (u : List Int), Dig (4294967296 : Int) u → off + (v.length + 1) ≤ u.length → u.length ≤ 1000000000 → i ≤ v.length + 1 → v.length + 1 - i < n → 0 ≤ c → c ≤ 1 →
    ∃ u' c', Dig (4294967296 : Int) u' ∧ u'.length = u.length ∧ 0 ≤ c' ∧ c' ≤ 1 ∧ nv (4294967296 : Int) u' = nv (4294967296 : Int) u + (4294967296 : Int) ^ (off + i) * c + (4294967296 : Int) ^ (off + i) * nv (4294967296 : Int) (v.drop i) - (4294967296 : Int) ^ (off + (v.length + 1)) * c' ∧ u'.drop (off + (v.length + 1)) = u.drop (off + (v.length + 1)) ∧
      nat_long.l21 N n (v.length : Int) s j off (v.length + 1) c ((v.length + 1 : Nat) : Int) (i : Int) v u out K0 = K0 (v.length : Int) s j v u' out := by
  intro n
  induction n with
  | zero => intro i c u _ _ _ _ h; omega
  | succ n ih =>
    intro i c u hu hul hul2 hi hn c0 c1
    rw [nat_long.l21]
    by_cases hil : i < v.length + 1
    · have e0 : decide ((i : Int) < ((v.length + 1 : Nat) : Int)) = true := decide_eq_true (by omega)
      have e1 : (decide (0 ≤ (i : Int)) && decide ((i : Int) < ((v.length + 1 : Nat) : Int))) = true := by simp; omega
      have e2 : (i : Int).toNat = i := by omega
      have e3 : wi64 ((i : Int) + 1) = ((i + 1 : Nat) : Int) := by rw [wi64_id (by omega) (by omega)]; omega
      have ha := hu.get (by decide) (off + i)
      generalize hae : u.getD (off + i) 0 = a at ha
      have go : ∀ t dv : Int, 0 ≤ dv → dv < (4294967296 : Int) → t = c + a + dv → nv (4294967296 : Int) (v.drop i) = dv + (4294967296 : Int) * nv (4294967296 : Int) (v.drop (i + 1)) →
          ∀ u1, u1 = u.set (off + i) (t % (4294967296 : Int)) →
          ∃ u' c', Dig (4294967296 : Int) u' ∧ u'.length = u.length ∧ 0 ≤ c' ∧ c' ≤ 1 ∧ nv (4294967296 : Int) u' = nv (4294967296 : Int) u + (4294967296 : Int) ^ (off + i) * c + (4294967296 : Int) ^ (off + i) * nv (4294967296 : Int) (v.drop i) - (4294967296 : Int) ^ (off + (v.length + 1)) * c' ∧ u'.drop (off + (v.length + 1)) = u.drop (off + (v.length + 1)) ∧
            nat_long.l21 N n (v.length : Int) s j off (v.length + 1) (t / (4294967296 : Int)) ((v.length + 1 : Nat) : Int) ((i + 1 : Nat) : Int) v u1 out K0 = K0 (v.length : Int) s j v u' out := by
        intro t dv dv0 dv1 ht hdr u1 hu1
        subst hu1
        obtain ⟨u', c', g1, g2, g3, g4, g5, g6, g7⟩ := ih (i + 1) (t / (4294967296 : Int)) (u.set (off + i) (t % (4294967296 : Int))) (hu.set (off + i) (by omega) (by omega)) (by simp; omega) (by simpa using hul2) (by omega) (by omega) (by omega) (by omega)
        refine ⟨u', c', g1, by simpa using g2, g3, g4, ?_, by rw [g6, drop_set (by omega)], g7⟩
        rw [g5, nv_set (4294967296 : Int) _ u (off + i) (by omega), hae, hdr]
        have htt : t = t % (4294967296 : Int) + (4294967296 : Int) * (t / (4294967296 : Int)) := by omega
        have hp : (4294967296 : Int) ^ (off + (i + 1)) = (4294967296 : Int) ^ (off + i) * (4294967296 : Int) := by rw [← Nat.add_assoc, Int.pow_succ]
        rw [hp]
        generalize (4294967296 : Int) ^ (off + i) = P at *
        generalize nv (4294967296 : Int) (v.drop (i + 1)) = V1 at *
        generalize (4294967296 : Int) ^ (off + (v.length + 1)) * c' = Q at *
        generalize t % (4294967296 : Int) = lo at *
        generalize t / (4294967296 : Int) = hi' at *
        have hlo : lo = c + a + dv - (4294967296 : Int) * hi' := by omega
        rw [hlo]
        grind
      rw [e1, e0, e2, e3]
      simp only [cond_true, hae]
      by_cases hiv : i < v.length
      · have f0 : decide ((i : Int) < (v.length : Int)) = true := decide_eq_true (by omega)
        have f1 : (decide (0 ≤ (i : Int)) && decide ((i : Int) < (v.length : Int))) = true := by simp; omega
        have hvd := hv.get (by decide) i
        generalize hve : v.getD i 0 = dv at hvd
        have ew : wu64 (wu64 (c + wu64 a) + wu64 dv) = c + a + dv := by
          rw [wu64_id hvd.1 (by omega), wu64_id ha.1 (by omega), wu64_id (n := c + a) (by omega) (by omega), wu64_id (by omega) (by omega)]
        rw [f1, f0]
        simp only [cond_true, hve, ew]
        rw [wu32_mod, fdiv_pow, two32]
        exact go (c + a + dv) dv hvd.1 hvd.2 rfl (by rw [nv_drop (4294967296 : Int) v i hiv, hve]) _ rfl
      · have f0 : decide ((i : Int) < (v.length : Int)) = false := decide_eq_false (by omega)
        have hz : v.drop i = [] := List.drop_eq_nil_iff.mpr (by omega)
        have hz2 : v.drop (i + 1) = [] := List.drop_eq_nil_iff.mpr (by omega)
        have ew : wu64 (c + wu64 a) = c + a + 0 := by
          rw [wu64_id ha.1 (by omega), wu64_id (by omega) (by omega)]; omega
        rw [f0]
        simp only [cond_false, ew]
        rw [wu32_mod, fdiv_pow, two32]
        exact go (c + a + 0) 0 (by omega) (by decide) rfl (by rw [hz, hz2]; simp [nv]) _ rfl
    · have hie : i = v.length + 1 := by omega
      have e0 : decide ((i : Int) < ((v.length + 1 : Nat) : Int)) = false := decide_eq_false (by omega)
      have hz : v.drop i = [] := List.drop_eq_nil_iff.mpr (by omega)
      rw [e0]
      refine ⟨u, c, hu, rfl, c0, c1, ?_, rfl, rfl⟩
      rw [hz, hie]
      simp only [nv, Int.mul_zero, Int.add_zero]
      omega

/-- The digit guessed: as great as the first digits let it be. -/
theorem guess_loop (N : Nat) {R : Type} (v u out : List Int) (n j : Nat) (s X : Int) (hn2 : 2 ≤ n) (hnl : n = v.length) (hl : u.length ≤ 1000000000) (hvl : v.length ≤ 100000000) (hju : j + n ≤ u.length) (hv : Dig (4294967296 : Int) v) (hu : Dig (4294967296 : Int) u) (vt vs u2 : Int) (hvt : v.getD (n - 1) 0 = vt) (hvs : v.getD (n - 2) 0 = vs) (hu2 : u.getD (j + n - 2) 0 = u2) (htop : 2147483648 ≤ vt) (hX : X ≤ vt * (4294967296 : Int) + (4294967296 : Int) - 1)
    (K0 : Int → Int → Int → Int → List Int → List Int → List Int → Option R) : ∀ (fuel : Nat) (d rest : Int), 0 ≤ d → d ≤ 4294967297 → 0 ≤ rest → rest < (4294967296 : Int) → d * vt + rest = X → (4294967296 : Int) - rest ≤ ((fuel : Int) - 1) * 2147483648 → (∀ q, 0 ≤ q → q < (4294967296 : Int) → q * (vt * (4294967296 : Int) + vs) ≤ X * (4294967296 : Int) + u2 → q ≤ d) →
      ∃ d', 0 ≤ d' ∧ d' < (4294967296 : Int) ∧ d' * (vt * (4294967296 : Int) + vs) ≤ X * (4294967296 : Int) + u2 ∧ (∀ q, 0 ≤ q → q < (4294967296 : Int) → q * (vt * (4294967296 : Int) + vs) ≤ X * (4294967296 : Int) + u2 → q ≤ d') ∧ nat_long.l11 N fuel (n : Int) s (j : Int) d rest v u out K0 = K0 (n : Int) s (j : Int) d' v u out := by
  have hvt' : 0 ≤ vt ∧ vt < (4294967296 : Int) := by rw [← hvt]; exact hv.get (by decide) _
  have hvs' : 0 ≤ vs ∧ vs < (4294967296 : Int) := by rw [← hvs]; exact hv.get (by decide) _
  have hu2' : 0 ≤ u2 ∧ u2 < (4294967296 : Int) := by rw [← hu2]; exact hu.get (by decide) _
  have a1 : wi64 ((n : Int) - 1) = ((n - 1 : Nat) : Int) := by rw [wi64_id (by omega) (by omega)]; omega
  have a2 : wi64 ((n : Int) - 2) = ((n - 2 : Nat) : Int) := by rw [wi64_id (by omega) (by omega)]; omega
  have a3 : wi64 (wi64 ((j : Int) + (n : Int)) - 2) = ((j + n - 2 : Nat) : Int) := by rw [wi64_id (n := (j : Int) + n) (by omega) (by omega), wi64_id (by omega) (by omega)]; omega
  have b1 : (decide (0 ≤ ((n - 1 : Nat) : Int)) && decide (((n - 1 : Nat) : Int) < (v.length : Int))) = true := by simp; omega
  have b2 : (decide (0 ≤ ((n - 2 : Nat) : Int)) && decide (((n - 2 : Nat) : Int) < (v.length : Int))) = true := by simp; omega
  have b3 : (decide (0 ≤ ((j + n - 2 : Nat) : Int)) && decide (((j + n - 2 : Nat) : Int) < (u.length : Int))) = true := by simp; omega
  have t1 : ((n - 1 : Nat) : Int).toNat = n - 1 := by omega
  have t2 : ((n - 2 : Nat) : Int).toNat = n - 2 := by omega
  have t3 : ((j + n - 2 : Nat) : Int).toNat = j + n - 2 := by omega
  intro fuel
  induction fuel with
  | zero => intro d rest d0 d1 r0 r1 hd hf; omega
  | succ fuel ih =>
    intro d rest d0 d1 r0 r1 hd hf hq
    rw [nat_long.l11]
    simp only [a1, a2, a3, b1, b2, b3, cond_true, t1, t2, t3, hvt, hvs, hu2]
    have ewv : wu64 vt = vt := wu64_id hvt'.1 (by omega)
    have ews : wu64 vs = vs := wu64_id hvs'.1 (by omega)
    have ewu : wu64 u2 = u2 := wu64_id hu2'.1 (by omega)
    have ewr : wu64 (rest + vt) = rest + vt := wu64_id (by omega) (by omega)
    have hdvB : d * vt * (4294967296 : Int) + rest * (4294967296 : Int) = X * (4294967296 : Int) := by rw [← hd]; grind
    -- one less
    have less : 1 ≤ d → (∀ q, 0 ≤ q → q < (4294967296 : Int) → q * (vt * (4294967296 : Int) + vs) ≤ X * (4294967296 : Int) + u2 → q ≤ d - 1) →
        ∃ d', 0 ≤ d' ∧ d' < (4294967296 : Int) ∧ d' * (vt * (4294967296 : Int) + vs) ≤ X * (4294967296 : Int) + u2 ∧ (∀ q, 0 ≤ q → q < (4294967296 : Int) → q * (vt * (4294967296 : Int) + vs) ≤ X * (4294967296 : Int) + u2 → q ≤ d') ∧
          (bif (Int.fdiv (wu64 (rest + (wu64 vt))) (2 ^ 32)) != 0 then K0 (n : Int) s (j : Int) (wu64 (d - 1)) v u out
            else nat_long.l11 N fuel (n : Int) s (j : Int) (wu64 (d - 1)) (wu64 (rest + (wu64 vt))) v u out K0) = K0 (n : Int) s (j : Int) d' v u out := by
      intro hd1 hq1
      rw [ewv, ewr, wu64_id (n := d - 1) (by omega) (by omega), fdiv_pow, two32]
      have hd' : (d - 1) * vt + (rest + vt) = X := by rw [← hd]; grind
      by_cases hr : rest + vt < (4294967296 : Int)
      · have : ((rest + vt) / (4294967296 : Int) != 0) = false := by simp; omega
        rw [this]
        simp only [cond_false]
        exact ih (d - 1) (rest + vt) (by omega) (by omega) (by omega) hr hd' (by omega) hq1
      · have : ((rest + vt) / (4294967296 : Int) != 0) = true := by simp; omega
        rw [this]
        simp only [cond_true]
        have hlt : d - 1 < (4294967296 : Int) := by
          rcases Int.lt_or_le (d - 1) (4294967296 : Int) with h | h
          · exact h
          · exfalso
            have := Int.mul_le_mul_of_nonneg_right h hvt'.1
            have e : (4294967296 : Int) * vt = vt * (4294967296 : Int) := Int.mul_comm _ _
            omega
        refine ⟨d - 1, by omega, hlt, ?_, hq1, rfl⟩
        obtain ⟨m1, m2⟩ := digs_mul (show 0 ≤ d - 1 by omega) hlt hvs'.1 hvs'.2
        have e : (d - 1) * (vt * (4294967296 : Int) + vs) = (X - (rest + vt)) * (4294967296 : Int) + (d - 1) * vs := by rw [← hd']; grind
        have e2 : (X - (rest + vt)) * (4294967296 : Int) = X * (4294967296 : Int) - (rest + vt) * (4294967296 : Int) := by grind
        omega
    by_cases hdB : (4294967296 : Int) ≤ d
    · have c1 : ((Int.fdiv d (2 ^ 32)) != 0) = true := by rw [fdiv_pow, two32]; simp; omega
      rw [c1]
      simp only [cond_true]
      exact less (by omega) (fun q q0 q1 hh => by omega)
    · have c1 : ((Int.fdiv d (2 ^ 32)) != 0) = false := by rw [fdiv_pow, two32]; simp; omega
      obtain ⟨m1, m2⟩ := digs_mul d0 (show d < (4294967296 : Int) by omega) hvs'.1 hvs'.2
      have er : bit_or .u64 (wu64 (rest * 2 ^ 32)) (wu64 u2) = rest * (4294967296 : Int) + u2 := by
        rw [two32, wu64_id (n := rest * 4294967296) (by omega) (by omega), ewu, or_shift r0 r1 hu2'.1 hu2'.2]
      rw [c1, er, ews, wu64_id m1 (by omega)]
      simp only [cond_false]
      have key : d * (vt * (4294967296 : Int) + vs) = X * (4294967296 : Int) - rest * (4294967296 : Int) + d * vs := by
        have : d * (vt * (4294967296 : Int) + vs) = d * vt * (4294967296 : Int) + d * vs := by grind
        omega
      by_cases ht : d * vs > rest * (4294967296 : Int) + u2
      · rw [decide_eq_true ht]
        simp only [cond_true]
        refine less ?_ (fun q q0 q1 hh => ?_)
        · rcases Int.lt_or_le 0 d with h | h
          · omega
          · have : d = 0 := by omega
            subst this; simp at ht; omega
        · have h1 := hq q q0 q1 hh
          rcases Int.lt_or_le q d with h | h
          · omega
          · have : q = d := by omega
            subst this; omega
      · rw [decide_eq_false ht]
        simp only [cond_false]
        exact ⟨d, d0, by omega, by omega, hq, rfl⟩


end Go.Proofs.Ytifnooogklfifaa.NatL
