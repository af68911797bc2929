-- Plain laws of the row law11: the program's map of reduced forms.
import Derived.Test.YtifnooogklfifaaPc
namespace Go.Proofs.Ytifnooogklfifaa.Cls
open Go Go.Proofs.Ytifnooogklfifaa.Ev
open Go.Proofs.Ytifnooogklfifaa.Pure (wi64_id)
set_option linter.unusedVariables false
set_option linter.unusedSimpArgs false

/-- What the program's map has: all middle parts nearer to nought than b; of b and -b, what comes ahead of a. -/
def Sb (d b a : Int) (x y z : Int) : Prop := Rd d x y z ∧ ((-b < y ∧ y < b) ∨ ((y = b ∨ y = -b) ∧ x < a))
def Sf (d b : Int) (x y z : Int) : Prop := Rd d x y z ∧ -b ≤ y ∧ y ≤ b

theorem content_cont {N : Nat} (hN : 1000000001 < N) {a b c : Int} (ha : -100000 < a) (ha2 : a < 100000) (hb : -100000 < b) (hb2 : b < 100000) (hc : -100000 < c) (hc2 : c < 100000) : binary_Content.f N a b c = some (cont a b c) :=
  Pure.content_model hN ⟨by omega, by omega, by omega⟩

section
variable {d b nn : Int}

theorem rd_mid (hn : 4 * nn = b * b - d) {a y z : Int} (hy : y * y = b * b) : y * y - 4 * a * z = d ↔ a * z = nn := by
  have e : 4 * a * z = 4 * (a * z) := by grind
  rw [hy, e]; omega

theorem rd_b (hn : 4 * nn = b * b - d) (hb : 0 ≤ b) {a z : Int} (ha : 1 ≤ a) (hab : b ≤ a) (hs : a * a ≤ nn) : Rd d a b z ↔ (nn % a = 0 ∧ z = nn / a) := by
  constructor
  · intro h
    have e := (rd_mid hn (a := a) (z := z) rfl).1 h.eq
    rw [← e]
    exact ⟨Int.mul_emod_right _ _, (Int.mul_ediv_cancel_left _ (by omega)).symm⟩
  · rintro ⟨h1, rfl⟩
    have e : a * (nn / a) = nn := by have := Int.mul_ediv_add_emod nn a; omega
    have hle : a ≤ nn / a := Int.le_ediv_of_mul_le (by omega) hs
    exact ⟨(rd_mid hn rfl).2 e, by omega, by omega, hab, by omega⟩

theorem rd_m (hn : 4 * nn = b * b - d) (hb : 0 < b) {a z : Int} (ha : 1 ≤ a) (hab : b ≤ a) (hs : a * a ≤ nn) : Rd d a (-b) z ↔ (nn % a = 0 ∧ z = nn / a ∧ b < a ∧ a < z) := by
  have hq : -b * -b = b * b := by grind
  constructor
  · intro h
    have e := (rd_mid hn (a := a) (z := z) hq).1 h.eq
    rw [← e]
    have := h.lo; have := h.last
    exact ⟨Int.mul_emod_right _ _, (Int.mul_ediv_cancel_left _ (by omega)).symm, by omega, by omega⟩
  · rintro ⟨h1, rfl, h2, h3⟩
    have e : a * (nn / a) = nn := by have := Int.mul_ediv_add_emod nn a; omega
    exact ⟨(rd_mid hn hq).2 e, by omega, by omega, by omega, .inl h3⟩

theorem cl_in {N : Nat} (hN : 1000000001 < N) (hd : -65536 ≤ d) (hd0 : d < 0) (hb : 0 ≤ b) (hb2 : b ≤ 147) (hn : 4 * nn = b * b - d) : ∀ (n : Nat) (a : Int) (ks : List (List Int)) (vs : List Int), b ≤ a → 1 ≤ a → a ≤ 256 → 257 - a < n → Inv (Sb d b a) ks vs →
    ∃ ks' vs', Inv (Sf d b) ks' vs' ∧ ∀ {T : Type} (K : Int → Int → List (List Int) → List Int → Option T), classes_forms.l7 N n d b nn a ks vs K = K d b ks' vs'
  | 0, a, ks, vs, _, _, _, h, _ => by omega
  | n + 1, a, ks, vs, h1, h2, h3, h4, hI => by
    have hs := sq_small (b := b) (M := 147) (by omega) (by omega)
    have ha := sq_small (b := a) (M := 256) (by omega) (by omega)
    have e1 : wi64 (a * a) = a * a := wi64_id (by omega) (by omega)
    have e2 : wi64 (a + 1) = a + 1 := wi64_id (by omega) (by omega)
    have e3 : wi64 (0 - b) = -b := by rw [show 0 - b = -b by omega]; exact wi64_id (by omega) (by omega)
    have n0 : 0 ≤ nn := by omega
    have hq0 : 0 ≤ nn / a := Int.ediv_nonneg n0 (by omega)
    have hq1 : nn / a ≤ nn := Int.ediv_le_self _ n0
    have e4 : wi64 (Int.tdiv nn a) = nn / a := by rw [Int.tdiv_eq_ediv_of_nonneg n0]; exact wi64_id (by omega) (by omega)
    have e5 : Int.tmod nn a = nn % a := Int.tmod_eq_emod_of_nonneg n0
    by_cases hc : a * a ≤ nn
    · have ha2 : a ≤ 255 := small_of_sq (by omega) (by omega)
      have c1 : (!(a == 0)) = true := by simp; omega
      have hnext : ∀ ks' vs', Inv (Sb d b (a + 1)) ks' vs' → ∃ ks'' vs'', Inv (Sf d b) ks'' vs'' ∧ ∀ {T : Type} (K : Int → Int → List (List Int) → List Int → Option T), classes_forms.l7 N n d b nn (a + 1) ks' vs' K = K d b ks'' vs'' :=
        fun ks' vs' hI' => cl_in hN hd hd0 hb hb2 hn n (a + 1) ks' vs' (by omega) (by omega) (by omega) (by omega) hI'
      have hB := fun z => rd_b (d := d) (z := z) hn hb h2 h1 hc
      have hM := fun (h0 : 0 < b) z => rd_m (d := d) (z := z) hn h0 h2 h1 hc
      have hg : binary_Content.f N a b (nn / a) = some (cont a b (nn / a)) := content_cont hN (by omega) (by omega) (by omega) (by omega) (by omega) (by omega)
      simp only [classes_forms.l7, e1, e2, e3, e4, e5, decide_eq_true hc, cond_true, c1, hg, Option.bind_some]
      by_cases hm : nn % a = 0
      · rw [show (nn % a != 0) = false by simp [hm]]
        simp only [cond_false]
        have p1 := hI.put a b (nn / a)
        have hget := p1.get (a := a) (b := b) (c := nn / a) (.inr ⟨rfl, rfl, rfl⟩)
        rw [hget]
        have one : (¬ (0 < b ∧ b < a ∧ a < nn / a)) → Inv (Sb d b (a + 1)) (mputK [a, b, nn / a] ks) (mput [a, b, nn / a] (cont a b (nn / a)) ks vs) := fun hno => p1.congr fun x y z => by
          unfold Sb
          constructor
          · rintro (⟨k1, k2⟩ | ⟨rfl, rfl, rfl⟩)
            · exact ⟨k1, by omega⟩
            · exact ⟨(hB _).2 ⟨hm, rfl⟩, by omega⟩
          · rintro ⟨k1, k2 | ⟨k2, k3⟩⟩
            · exact .inl ⟨k1, .inl k2⟩
            · by_cases hx : x = a
              · subst hx
                rcases k2 with rfl | rfl
                · exact .inr ⟨rfl, rfl, ((hB z).1 k1).2⟩
                · by_cases h0 : 0 < b
                  · obtain ⟨q1, q2, q3, q4⟩ := (hM h0 z).1 k1
                    rw [q2] at q4
                    exact absurd ⟨h0, q3, q4⟩ hno
                  · have : b = 0 := by omega
                    subst this
                    exact .inr ⟨rfl, rfl, ((hB z).1 k1).2⟩
              · exact .inl ⟨k1, .inr ⟨k2, by omega⟩⟩
        by_cases q1 : b > 0
        · by_cases q2 : b < a
          · by_cases q3 : a < nn / a
            · have p2 := p1.put a (-b) (nn / a)
              rw [cont_neg] at p2
              obtain ⟨k1, k2, k3, k4⟩ := hnext _ _ (p2.congr (S' := Sb d b (a + 1)) fun x y z => by
                unfold Sb
                constructor
                · rintro ((⟨k1, k2⟩ | ⟨rfl, rfl, rfl⟩) | ⟨rfl, rfl, rfl⟩)
                  · exact ⟨k1, by omega⟩
                  · exact ⟨(hB _).2 ⟨hm, rfl⟩, by omega⟩
                  · exact ⟨(hM q1 _).2 ⟨hm, rfl, q2, q3⟩, by omega⟩
                · rintro ⟨k1, k2 | ⟨k2, k3⟩⟩
                  · exact .inl (.inl ⟨k1, .inl k2⟩)
                  · by_cases hx : x = a
                    · subst hx
                      rcases k2 with rfl | rfl
                      · exact .inl (.inr ⟨rfl, rfl, ((hB z).1 k1).2⟩)
                      · exact .inr ⟨rfl, rfl, ((hM q1 z).1 k1).2.1⟩
                    · exact .inl (.inl ⟨k1, .inr ⟨k2, by omega⟩⟩))
              refine ⟨k1, k2, k3, fun K => ?_⟩
              rw [decide_eq_true q1, decide_eq_true q2, decide_eq_true q3]
              exact k4 K
            · obtain ⟨k1, k2, k3, k4⟩ := hnext _ _ (one fun h => q3 h.2.2)
              refine ⟨k1, k2, k3, fun K => ?_⟩
              rw [decide_eq_true q1, decide_eq_true q2, decide_eq_false q3]
              exact k4 K
          · obtain ⟨k1, k2, k3, k4⟩ := hnext _ _ (one fun h => q2 h.2.1)
            refine ⟨k1, k2, k3, fun K => ?_⟩
            rw [decide_eq_true q1, decide_eq_false q2]
            exact k4 K
        · obtain ⟨k1, k2, k3, k4⟩ := hnext _ _ (one fun h => q1 h.1)
          refine ⟨k1, k2, k3, fun K => ?_⟩
          rw [decide_eq_false q1]
          exact k4 K
      · rw [show (nn % a != 0) = true by simp [hm]]
        simp only [cond_true]
        exact hnext _ _ (hI.congr fun x y z => by
          unfold Sb
          constructor
          · rintro ⟨k1, k2⟩; exact ⟨k1, by omega⟩
          · rintro ⟨k1, k2 | ⟨k2, k3⟩⟩
            · exact ⟨k1, .inl k2⟩
            · by_cases hx : x = a
              · subst hx
                rcases k2 with rfl | rfl
                · exact absurd ((hB z).1 k1).1 hm
                · by_cases h0 : 0 < b
                  · exact absurd ((hM h0 z).1 k1).1 hm
                  · have : b = 0 := by omega
                    subst this
                    exact absurd ((hB z).1 k1).1 hm
              · exact ⟨k1, .inr ⟨k2, by omega⟩⟩)
    · refine ⟨ks, vs, hI.congr fun x y z => ?_, fun K => ?_⟩
      · unfold Sb Sf
        constructor
        · rintro ⟨k1, k2⟩; exact ⟨k1, by omega⟩
        · rintro ⟨k1, k2, k3⟩
          refine ⟨k1, ?_⟩
          by_cases hy : y = b ∨ y = -b
          · refine .inr ⟨hy, ?_⟩
            have hyy : y * y = b * b := by rcases hy with rfl | rfl <;> grind
            have e := (rd_mid hn hyy).1 k1.eq
            have h5 := k1.cge
            have h6 := k1.pos
            rcases Int.lt_or_le x a with h7 | h7
            · exact h7
            · have g1 := sq_le (x := a) (y := x) (by omega) h7
              have g2 : x * x ≤ x * z := Int.mul_le_mul_of_nonneg_left h5 (by omega)
              omega
          · exact .inl (by omega)
      · rw [classes_forms.l7, e1, decide_eq_false hc]
        rfl
end

theorem cl_out {N : Nat} (hN : 1000000001 < N) {d : Int} (hd : -65536 ≤ d) (hd0 : d < 0) (hd4 : d % 4 = 0 ∨ d % 4 = 1) : ∀ (n : Nat) (b : Int) (ks : List (List Int)) (vs : List Int), 0 ≤ b → b % 2 = d % 2 → b ≤ 149 → 150 - b < n → Inv (fun x y z => Rd d x y z ∧ -b < y ∧ y < b) ks vs →
    ∃ ks' vs', Inv (Rd d) ks' vs' ∧ ∀ {T : Type} (K : List (List Int) → List Int → Option T), classes_forms.l3 N n d b ks vs K = K ks' vs'
  | 0, b, ks, vs, _, _, _, h, _ => by omega
  | n + 1, b, ks, vs, h1, h2, h3, h4, hI => by
    have hs := sq_small (b := b) (M := 149) (by omega) (by omega)
    have e0 : 3 * b * b = 3 * (b * b) := by grind
    have e1 : wi64 (3 * b) = 3 * b := wi64_id (by omega) (by omega)
    have e2 : wi64 (3 * b * b) = 3 * b * b := wi64_id (by omega) (by omega)
    have e3 : wi64 (0 - d) = -d := by rw [show 0 - d = -d by omega]; exact wi64_id (by omega) (by omega)
    have e4 : wi64 (b * b) = b * b := wi64_id (by omega) (by omega)
    have e5 : wi64 (b * b - d) = b * b - d := wi64_id (by omega) (by omega)
    have e6 : wi64 (b + 2) = b + 2 := wi64_id (by omega) (by omega)
    have e7 : wi64 (Int.tdiv (b * b - d) 4) = (b * b - d) / 4 := by
      rw [Int.tdiv_eq_ediv_of_nonneg (by omega)]; exact wi64_id (by omega) (by omega)
    by_cases hc : 3 * b * b ≤ -d
    · have hb : b ≤ 147 := small_of_sq (by omega) (by omega)
      have hn : 4 * ((b * b - d) / 4) = b * b - d := by
        have hp : (b * b) % 4 = d % 4 := by
          have e : b = 2 * (b / 2) + b % 2 := by omega
          generalize b / 2 = q at e
          have hb2 : b % 2 = 0 ∨ b % 2 = 1 := by omega
          rcases hb2 with hb2 | hb2 <;> rw [hb2] at e
          · have : b * b = 4 * (q * q) := by rw [e]; grind
            omega
          · have : b * b = 4 * (q * q + q) + 1 := by rw [e]; grind
            omega
        omega
      have hmx : mx2 b 1 = if b < 1 then 1 else b := rfl
      obtain ⟨k1, v1, r1, r2⟩ := cl_in hN hd hd0 h1 hb hn N (mx2 b 1) ks vs (by rw [hmx]; split <;> omega) (by rw [hmx]; split <;> omega) (by rw [hmx]; split <;> omega) (by rw [hmx]; split <;> omega) (hI.congr fun x y z => by
        unfold Sb
        constructor
        · rintro ⟨k1, k2⟩; exact ⟨k1, .inl k2⟩
        · rintro ⟨k1, k2 | ⟨k2, k3⟩⟩
          · exact ⟨k1, k2⟩
          · have := k1.lo; have := k1.hi; have := k1.pos
            rw [hmx] at k3
            split at k3 <;> omega)
      obtain ⟨k2, v2, s1, s2⟩ := cl_out hN hd hd0 hd4 n (b + 2) k1 v1 (by omega) (by omega) (by omega) (by omega) (r1.congr fun x y z => by
        unfold Sf
        constructor
        · rintro ⟨k1, k2⟩; exact ⟨k1, by omega⟩
        · rintro ⟨k1, k2⟩
          have := k1.parity
          exact ⟨k1, by omega⟩)
      refine ⟨k2, v2, s1, fun K => ?_⟩
      rw [classes_forms.l3, e1, e2, e3, decide_eq_true hc, cond_true, e4, e5, e7, r2]
      simp only [e6]
      exact s2 K
    · refine ⟨ks, vs, hI.congr fun x y z => ⟨fun h => h.1, fun h => ⟨h, ?_⟩⟩, fun K => ?_⟩
      · have h5 := h.three
        have e8 : 3 * x * x = 3 * (x * x) := by grind
        have h6 := h.lo; have h7 := h.hi; have h8 := h.pos
        rcases Int.lt_or_le x b with h9 | h9
        · omega
        · have := sq_le (x := b) (y := x) (by omega) h9; omega
      · rw [classes_forms.l3, e1, e2, e3, decide_eq_false hc]
        rfl

theorem cl_told {N : Nat} (hN : 1000000001 < N) {d : Int} (hd : -65536 ≤ d) (hd0 : d < 0) (hd4 : d % 4 = 0 ∨ d % 4 = 1) : ∃ ks vs, Inv (Rd d) ks vs ∧ classes_forms.f N d = some (ks, vs) := by
  have e1 : wi64 (0 - d) = -d := by rw [show 0 - d = -d by omega]; exact wi64_id (by omega) (by omega)
  have e2 : Int.tmod (-d) 2 = (-d) % 2 := Int.tmod_eq_emod_of_nonneg (by omega)
  obtain ⟨ks, vs, h1, h2⟩ := cl_out hN hd hd0 hd4 N ((-d) % 2) [] [] (by omega) (by omega) (by omega) (by omega) (Inv.nil fun x y z h => by
    have := h.1.parity; omega)
  refine ⟨ks, vs, h1, ?_⟩
  unfold classes_forms.f
  rw [e1, e2]
  exact h2 _

end Go.Proofs.Ytifnooogklfifaa.Cls
