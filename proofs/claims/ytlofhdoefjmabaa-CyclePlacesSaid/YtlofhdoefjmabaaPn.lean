-- Plain laws of the row law09: All tells each primitive reduced form once, by cycles.
import Derived.Test.YtlofhdoefjmabaaPm
namespace Go.Proofs.Ytlofhdoefjmabaa.Pure
open Go Go.Proofs.Ytlofhdoefjmabaa.Ev
set_option linter.unusedVariables false
set_option linter.unusedSimpArgs false

theorem all_out {N : Nat} (hN : 8589934600 < N) {d s : Int} (hd : Cross d s) (hs : d ≤ 65536) (hs2 : s ≤ 256) : ∀ (q : Nat) (b : Int) (X : List T3), 1 ≤ b → (d - b * b) % 4 = 0 → s + 2 - b < 2 * q → b ≤ s + 2 → (X.length : Int) + 300 * (s + 2 - b) ≤ 200000 →
    ∃ Y : List T3, (∀ y ∈ Y, PF d s y) ∧ (∀ y, PF d s y → b ≤ y.2.1 → y ∈ Y) ∧ (Y.length : Int) ≤ 300 * (s + 2 - b) ∧ ∀ {R : Type} (K : List Int → Option R), cycle_All.l6 N q d s b (flat3 X) K = K (flat3 (X ++ Y)) := by
  have hd1 := hd.d1
  have lo := hd.root.lo
  intro q
  induction q with
  | zero => intro b X h1 hp h2 h3 h4; omega
  | succ q ih =>
    intro b X h1 hp h2 h3 h4
    by_cases hle : b ≤ s
    · have hbb := sq_mono (show 0 ≤ b by omega) hle
      have hb0 := sq_nonneg b
      obtain ⟨nn, hnn⟩ := Int.dvd_of_emod_eq_zero hp
      have w1 : wi64 (b * b) = b * b := wi64_id (by omega) (by omega)
      have w2 : wi64 (d - b * b) = 4 * nn := by rw [wi64_id (by omega) (by omega)]; exact hnn
      have w3 : wi64 (Int.tdiv (4 * nn) 4) = nn := by rw [Int.mul_tdiv_cancel_left _ (by omega), wi64_id (by omega) (by omega)]
      have w4 : wi64 (b + 2) = b + 2 := wi64_id (by omega) (by omega)
      obtain ⟨Y, y1, y2, y3, y4⟩ := all_in hN hd hs hs2 h1 hle (show 4 * nn = d - b * b by omega) N 1 X (by omega) (by omega) (by omega) (by omega)
      obtain ⟨Z, z1, z2, z3, z4⟩ := ih (b + 2) (X ++ Y) (by omega) (by
        have e : d - (b + 2) * (b + 2) = (d - b * b) + 4 * (-(b + 1)) := by grind
        rw [e, Int.add_mul_emod_self_left]; exact hp) (by omega) (by omega) (by simp; omega)
      refine ⟨Y ++ Z, ?_, ?_, by simp; omega, fun K => ?_⟩
      · intro y hy
        rcases List.mem_append.mp hy with h | h
        · exact y1 y h
        · exact z1 y h
      · intro y hy hyb
        by_cases hq : y.2.1 = b
        · exact List.mem_append.mpr (.inl (y2 y hy hq (ab_pos (hy.1.1.ane hd).1)))
        · refine List.mem_append.mpr (.inr (z2 y hy ?_))
          have hdc := hy.1.1.disc
          have e1 : (d - y.2.1 * y.2.1) % 4 = 0 := by
            have e : d - y.2.1 * y.2.1 = 4 * (-(y.1 * y.2.2)) := by rw [← hdc]; grind
            rw [e, Int.mul_emod_right]
          rcases Int.lt_or_le y.2.1 (b + 2) with h | h
          · exfalso
            have e2 : y.2.1 = b + 1 := by omega
            rw [e2] at e1
            have e : d - (b + 1) * (b + 1) = (d - b * b) - 2 * b - 1 := by grind
            omega
          · exact h
      · rw [cycle_All.l6, decide_eq_true hle, cond_true, w1, w2, w3, y4, w4, z4, List.append_assoc]
    · refine ⟨[], (fun y hy => (List.not_mem_nil hy).elim), fun y hy hyb => ?_, (by simp; omega), fun K => ?_⟩
      · exfalso
        obtain ⟨_, r2, _⟩ := hy.1.2
        omega
      · rw [cycle_All.l6, decide_eq_false hle, cond_false, List.append_nil]

theorem fl_at {X : List T3} {i : Nat} (h : i < X.length) : (flat3 X).getD (i * 3) 0 = X[i].1 ∧ (flat3 X).getD (i * 3 + 1) 0 = X[i].2.1 ∧ (flat3 X).getD (i * 3 + 2) 0 = X[i].2.2 := by
  have g0 := flat3_get X (i * 3) (by omega)
  have g1 := flat3_get X (i * 3 + 1) (by omega)
  have g2 := flat3_get X (i * 3 + 2) (by omega)
  have a0 : i * 3 % 3 = 0 := by omega
  have a1 : (i * 3 + 1) % 3 = 1 := by omega
  have a2 : (i * 3 + 2) % 3 = 2 := by omega
  have b0 : i * 3 / 3 = i := by omega
  have b1 : (i * 3 + 1) / 3 = i := by omega
  have b2 : (i * 3 + 2) / 3 = i := by omega
  rw [a0, b0] at g0
  rw [a1, b1] at g1
  rw [a2, b2] at g2
  simp only [List.getElem?_eq_getElem h, Option.map_some] at g0 g1 g2
  simp only [List.getD_eq_getElem?_getD, g0, g1, g2]
  exact ⟨rfl, rfl, rfl⟩

/-- A cycle's forms are marked as seen. -/
theorem seen_go (N : Nat) {s : Int} {z : T3} {m : Nat} (hm : m ≤ 4096) : ∀ (q k : Nat) (ks : List (List Int)) (vs : List Bool), k ≤ m → m - k < q → ks.length = vs.length →
    ∃ ks' vs', ks'.length = vs'.length ∧ (∀ l, mgetG false l ks' vs' = true ↔ (mgetG false l ks vs = true ∨ ∃ j, k ≤ j ∧ j < m ∧ l = row3 (orb s z j))) ∧
      ∀ {R : Type} (x40 x41 : Int) (x46 : List (List Int)) (x48 : List Int) (K : Int → Int → List (List Int) → List Bool → List (List Int) → List Int → List Int → Option R), cycle_All.l28 N q x40 x41 (m : Int) (k : Int) ks vs x46 (flat s z m) x48 K = K x40 x41 ks' vs' x46 (flat s z m) x48 := by
  intro q
  induction q with
  | zero => intro k ks vs h1 h2 h3; omega
  | succ q ih =>
    intro k ks vs h1 h2 h3
    by_cases hk : k < m
    · have hl := flat_len s z m
      obtain ⟨g1, g2, g3⟩ := flat_get s z m k hk
      have c1 : decide ((k : Int) < (m : Int)) = true := decide_eq_true (by omega)
      have c2 : decide (0 ≤ (k : Int)) = true := decide_eq_true (by omega)
      have c3 : decide ((k : Int) < ((flat s z m).length / 3 : Int)) = true := decide_eq_true (by omega)
      have w : wi64 ((k : Int) + 1) = ((k + 1 : Nat) : Int) := by rw [wi64_id (by omega) (by omega)]; simp
      obtain ⟨ks', vs', r1, r2, r3⟩ := ih (k + 1) (mputK (row3 (orb s z k)) ks) (mput (row3 (orb s z k)) true ks vs) (by omega) (by omega) (mput_len _ _ _ _ h3)
      refine ⟨ks', vs', r1, fun l => ?_, fun x40 x41 x46 x48 K => ?_⟩
      · rw [r2, mget_put _ _ _ _ _ _ h3]
        constructor
        · rintro (h | ⟨j, j1, j2, j3⟩)
          · split at h
            · rename_i e; exact .inr ⟨k, Nat.le_refl _, hk, e⟩
            · exact .inl h
          · exact .inr ⟨j, by omega, j2, j3⟩
        · rintro (h | ⟨j, j1, j2, j3⟩)
          · left; split <;> simp [h]
          · by_cases e : j = k
            · subst e; left; rw [if_pos j3]
            · exact .inr ⟨j, by omega, j2, j3⟩
      · rw [cycle_All.l28]
        simp only [c1, c2, c3, cond_true, Bool.and_self, Int.toNat_natCast, g1, g2, g3, w]
        exact r3 x40 x41 x46 x48 K
    · have : k = m := by omega
      subst this
      refine ⟨ks, vs, h3, fun l => ⟨.inl, ?_⟩, fun x40 x41 x46 x48 K => ?_⟩
      · rintro (h | ⟨j, j1, j2, _⟩)
        · exact h
        · omega
      · rw [cycle_All.l28, decide_eq_false (by omega), cond_false]

theorem orb_mod {s : Int} {z : T3} {n : Nat} (hr : Round s z n) : ∀ k, orb s z k = orb s z (k % n) := by
  intro k
  have h : ∀ q r, orb s z (n * q + r) = orb s z r := by
    intro q
    induction q with
    | zero => intro r; rw [Nat.mul_zero, Nat.zero_add]
    | succ q ih => intro r; rw [Nat.mul_succ, Nat.add_assoc, ih, hr.wrap]
  have := h (k / n) (k % n)
  rw [Nat.div_add_mod] at this
  exact this
/-- Two cycles that meet are one. -/
theorem meet {s : Int} {x z : T3} {n m i j : Nat} (hx : Round s x n) (hz : Round s z m) (e : orb s z i = orb s x j) : ∃ t, t < m ∧ orb s z t = x := by
  have hp := hx.pos
  have h1 : orb s x (j + (n * j - j)) = x := by
    have : j ≤ n * j := by have := Nat.mul_le_mul_right j hp; omega
    rw [show j + (n * j - j) = n * j by omega, orb_mod hx, Nat.mul_mod_right]
    rfl
  rw [orb_add, ← e, ← orb_add] at h1
  exact ⟨(i + (n * j - j)) % m, Nat.mod_lt _ hz.pos, by rw [← orb_mod hz]; exact h1⟩

/-- Cycles told: their first forms and lengths. -/
structure Told (d s : Int) (cs : List (T3 × Nat)) : Prop where
  pf : ∀ p ∈ cs, PF d s p.1
  rnd : ∀ p ∈ cs, Round s p.1 p.2
  le : ∀ p ∈ cs, p.2 ≤ 2672
  apart : cs.Pairwise fun p q => ∀ i j, orb s p.1 i ≠ orb s q.1 j
def cyc (s : Int) (cs : List (T3 × Nat)) : List (List Int) := cs.map fun p => flat s p.1 p.2
def InC (s : Int) (cs : List (T3 × Nat)) (x : T3) : Prop := ∃ p ∈ cs, ∃ j, j < p.2 ∧ x = orb s p.1 j

theorem Told.short {d s : Int} (hd : Cross d s) (hs : d ≤ 65536) {cs : List (T3 × Nat)} (h : Told d s cs) : cs.length ≤ 2672 := by
  have hnd : (cs.map (·.1)).Nodup := by
    rw [List.Nodup, List.pairwise_map]
    exact h.apart.imp fun hpq => hpq 0 0
  have hsub : ∀ y ∈ cs.map (·.1), y ∈ cand d s := by
    intro y hy
    obtain ⟨p, hp, rfl⟩ := List.mem_map.mp hy
    exact cand_mem hd hs (h.pf p hp).1
  have := nd_len _ _ hnd hsub
  rw [List.length_map] at this
  have := cand_len d s
  omega
theorem Told.add {d s : Int} (hd : Cross d s) {cs : List (T3 × Nat)} (h : Told d s cs) {x : T3} {m : Nat} (hx : PF d s x) (hr : Round s x m) (hm : m ≤ 2672) (hn : ¬ InC s cs x) : Told d s (cs ++ [(x, m)]) where
  pf p hp := by
    rcases List.mem_append.mp hp with hp | hp
    · exact h.pf p hp
    · rw [List.mem_singleton.mp hp]; exact hx
  rnd p hp := by
    rcases List.mem_append.mp hp with hp | hp
    · exact h.rnd p hp
    · rw [List.mem_singleton.mp hp]; exact hr
  le p hp := by
    rcases List.mem_append.mp hp with hp | hp
    · exact h.le p hp
    · rw [List.mem_singleton.mp hp]; exact hm
  apart := by
    rw [List.pairwise_append]
    refine ⟨h.apart, List.pairwise_singleton _ _, fun p hp q hq i j e => ?_⟩
    rw [List.mem_singleton.mp hq] at e
    obtain ⟨t, t1, t2⟩ := meet hr (h.rnd p hp) e
    exact hn ⟨p, hp, t, t1, t2.symm⟩

/-- The cycles of the forms of a list. -/
theorem told_go {N : Nat} (hN : 8589934600 < N) {d s : Int} (hd : Cross d s) (hs : d ≤ 65536) {X : List T3} (hX : ∀ x ∈ X, PF d s x) (hXl : X.length ≤ 1000000) : ∀ (q i : Nat) (cs : List (T3 × Nat)) (ks : List (List Int)) (vs : List Bool), i ≤ X.length → X.length - i < q → ks.length = vs.length → Told d s cs →
    (∀ x, mgetG false (row3 x) ks vs = true ↔ InC s cs x) → (∀ x ∈ X.take i, InC s cs x) →
    ∃ cs', Told d s cs' ∧ (∀ x ∈ X, InC s cs' x) ∧ ∀ {R : Type} (K : List (List Int) → Option R), cycle_All.l23 N q (X.length : Int) (i : Int) ks vs (cyc s cs) (flat3 X) K = K (cyc s cs') := by
  intro q
  induction q with
  | zero => intro i cs ks vs h1 h2; omega
  | succ q ih =>
    intro i cs ks vs h1 h2 h3 hT hseen hdone
    by_cases hi : i < X.length
    · obtain ⟨g1, g2, g3⟩ := fl_at hi
      have hl := flat3_length X
      have c1 : decide ((i : Int) < (X.length : Int)) = true := decide_eq_true (by omega)
      have c2 : decide (0 ≤ (i : Int)) = true := decide_eq_true (by omega)
      have c3 : decide ((i : Int) < ((flat3 X).length / 3 : Int)) = true := decide_eq_true (by omega)
      have w : wi64 ((i : Int) + 1) = ((i + 1 : Nat) : Int) := by rw [wi64_id (by omega) (by omega)]; simp
      have htake : ∀ cs' : List (T3 × Nat), (∀ x, InC s cs x → InC s cs' x) → InC s cs' X[i] → ∀ x ∈ X.take (i + 1), InC s cs' x := by
        intro cs' hsub hx x hxm
        rw [List.take_add_one, List.getElem?_eq_getElem hi] at hxm
        rcases List.mem_append.mp hxm with h | h
        · exact hsub x (hdone x h)
        · simp at h; rw [h]; exact hx
      have hrow : ([X[i].1, X[i].2.1, X[i].2.2] : List Int) = row3 X[i] := rfl
      cases hb : mgetG false (row3 X[i]) ks vs with
      | true =>
        obtain ⟨cs', r1, r2, r3⟩ := ih (i + 1) cs ks vs (by omega) (by omega) h3 hT hseen (htake cs (fun _ h => h) ((hseen _).mp hb))
        refine ⟨cs', r1, r2, fun K => ?_⟩
        rw [cycle_All.l23]
        simp only [c1, c2, c3, cond_true, Bool.and_self, Int.toNat_natCast, g1, g2, g3, hrow, mgetB_eq, hb, w]
        exact r3 K
      | false =>
        have hx := hX X[i] (List.getElem_mem hi)
        obtain ⟨m, m1, m2, m3⟩ := round_whole hN hd hs hx.1
        have hno : ¬ InC s cs X[i] := fun h => by rw [(hseen _).mpr h] at hb; cases hb
        have hT' := hT.add hd hx m2 m1 hno
        obtain ⟨ks', vs', s1, s2, s3⟩ := seen_go N (s := s) (z := X[i]) (m := m) (by omega) N 0 ks vs (by omega) (by omega) h3
        have hin : ∀ x, InC s (cs ++ [(X[i], m)]) x ↔ InC s cs x ∨ ∃ j, 0 ≤ j ∧ j < m ∧ x = orb s X[i] j := by
          intro x
          constructor
          · rintro ⟨p, hp, j, j1, j2⟩
            rcases List.mem_append.mp hp with hp | hp
            · exact .inl ⟨p, hp, j, j1, j2⟩
            · rw [List.mem_singleton.mp hp] at j1 j2; exact .inr ⟨j, Nat.zero_le _, j1, j2⟩
          · rintro (⟨p, hp, j, j1, j2⟩ | ⟨j, _, j1, j2⟩)
            · exact ⟨p, List.mem_append.mpr (.inl hp), j, j1, j2⟩
            · exact ⟨(X[i], m), by simp, j, j1, j2⟩
        obtain ⟨cs', r1, r2, r3⟩ := ih (i + 1) (cs ++ [(X[i], m)]) ks' vs' (by omega) (by omega) s1 hT' (fun x => by
          rw [s2, hseen, hin]
          constructor
          · rintro (h | ⟨j, j0, j1, j2⟩)
            · exact .inl h
            · exact .inr ⟨j, j0, j1, row3_inj j2⟩
          · rintro (h | ⟨j, j0, j1, j2⟩)
            · exact .inl h
            · exact .inr ⟨j, j0, j1, by rw [j2]⟩) (htake _ (fun x h => (hin x).mpr (.inl h)) ((hin _).mpr (.inr ⟨0, Nat.le_refl _, m2.pos, rfl⟩)))
        refine ⟨cs', r1, r2, fun K => ?_⟩
        have hfl := flat_len s X[i] m
        have e0 : ((flat s X[i] m).length / 3 : Int) = (m : Int) := by omega
        have hcl := hT.short hd hs
        have hro : roomy ((cyc s cs).length + 1) 24 = true := roomy_ok (by unfold cyc; simp; omega)
        have ec : cyc s cs ++ [flat s X[i] m] = cyc s (cs ++ [(X[i], m)]) := by unfold cyc; simp
        rw [cycle_All.l23]
        simp only [c1, c2, c3, cond_true, Bool.and_self, Int.toNat_natCast, g1, g2, g3, hrow, mgetB_eq, hb, cond_false, m3, Option.bind_some, e0]
        have s3' := s3 (R := _) (X.length : Int) (i : Int) (cyc s cs) (flat3 X) (fun y56 y57 y58 y59 y60 y61 y62 =>
            bif roomy (y60.length + 1) 24 then
              cycle_All.l23 N q y56 (wi64 (y57 + 1)) y58 y59 (y60 ++ [y61]) y62 K
            else none)
        rw [Int.natCast_zero] at s3'
        rw [s3']
        simp only [hro, cond_true, w, ec]
        exact r3 K
    · refine ⟨cs, hT, fun x hx => hdone x ?_, fun K => ?_⟩
      · rw [List.take_of_length_le (by omega)]; exact hx
      · rw [cycle_All.l23, decide_eq_false (by omega), cond_false]

end Go.Proofs.Ytlofhdoefjmabaa.Pure
