-- Plain laws of the row law01: a number's text; the program's way.
import Derived.Test.YtnjlpjdncejfcaaPd
namespace Go.Proofs.Ytnjlpjdncejfcaa.Pure
open Go Go.Proofs.Ytnjlpjdncejfcaa.Ev
set_option linter.unusedVariables false
set_option linter.unusedSimpArgs false

/- Two words put side by side -/
theorem ofInt64_toNat {x : Int} (h0 : 0 ≤ x) (h1 : x < 18446744073709551616) : (BitVec.ofInt 64 x).toNat = x.toNat := by
  rw [BitVec.toNat_ofInt]
  have : x % ((2 ^ 64 : Nat) : Int) = x := by omega
  rw [this]

theorem or_shift {r d : Int} (r0 : 0 ≤ r) (r1 : r < 4294967296) (d0 : 0 ≤ d) (d1 : d < 4294967296) : bit_or .u64 (r * 4294967296) d = r * 4294967296 + d := by
  have e : bit_or .u64 (r * 4294967296) d = IntKind.wrap .u64 ((BitVec.ofInt 64 (r * 4294967296) ||| BitVec.ofInt 64 d).toNat : Int) := rfl
  rw [e, BitVec.toNat_or, ofInt64_toNat (by omega) (by omega), ofInt64_toNat (by omega) (by omega)]
  have h1 : (r * 4294967296).toNat = r.toNat <<< 32 := by rw [Nat.shiftLeft_eq]; omega
  rw [h1, ← Nat.shiftLeft_add_eq_or_of_lt (show d.toNat < 2 ^ 32 by omega), Nat.shiftLeft_eq]
  have : IntKind.wrap .u64 ((r.toNat * 2 ^ 32 + d.toNat : Nat) : Int) = ((r.toNat * 2 ^ 32 + d.toNat : Nat) : Int) := by
    show wu64 _ = _
    exact wu64_id (by omega) (by omega)
  rw [this]
  omega

/- Dividing by one digit -/
theorem short_loop (N : Nat) {R : Type} (by_ : Int) (b0 : 0 < by_) (b1 : by_ < 4294967296) (m : Nat) (hm : m ≤ 1000000000) (K0 : Int → List Int → Option R) : ∀ (n j : Nat) (r : Int) (l : List Int), Dig (4294967296 : Int) l → m ≤ l.length → j ≤ m → j < n → 0 ≤ r → r < by_ →
    ∃ r' l', Dig (4294967296 : Int) l' ∧ l'.length = l.length ∧ 0 ≤ r' ∧ r' < by_ ∧
      by_ * nv (4294967296 : Int) (l'.take m) + r' = by_ * (4294967296 : Int) ^ j * nv (4294967296 : Int) ((l.take m).drop j) + r * (4294967296 : Int) ^ j + nv (4294967296 : Int) ((l.take m).take j) ∧
      nat_short.l3 N n 0 m by_ r ((j : Int) - 1) l K0 = K0 r' l' := by
  intro n
  induction n with
  | zero => intro j r l _ _ _ h; omega
  | succ n ih =>
    intro j r l hd hl hj hn r0 r1
    rw [nat_short.l3]
    cases j with
    | zero =>
      refine ⟨r, l, hd, rfl, r0, r1, by simp [nv], rfl⟩
    | succ j =>
      have e0 : ((j + 1 : Nat) : Int) - 1 = (j : Int) := by omega
      have e3 : wi64 ((j : Int) - 1) = (j : Int) - 1 := wi64_id (by omega) (by omega)
      have c1 : (decide (0 ≤ (j : Int)) && decide ((j : Int) < (m : Int))) = true := by simp; omega
      have c0 : decide ((j : Int) ≥ 0) = true := decide_eq_true (by omega)
      have e2 : 0 + (j : Int).toNat = j := by omega
      have hx := hd.get (by decide) j
      have p32 : (2 : Int) ^ 32 = 4294967296 := by decide
      rw [e0, c1, c0, e2, e3, p32]
      simp only [cond_true]
      have wb : wu64 by_ = by_ := wu64_id (by omega) (by omega)
      have cb : (by_ == 0) = false := by simp; omega
      rw [wb, cb]
      simp only [Bool.not_false, cond_true]
      rw [wu64_id (n := r * 4294967296) (by omega) (by omega), wu64_id (n := l.getD j 0) (by omega) (by omega), or_shift r0 (by omega) hx.1 hx.2]
      generalize hxx : r * 4294967296 + l.getD j 0 = x
      have x0 : 0 ≤ x := by omega
      have h1 := Int.mul_ediv_add_emod x by_
      have h2 := Int.emod_nonneg x (b := by_) (by omega)
      have h3 := Int.emod_lt_of_pos x b0
      have hq0 : 0 ≤ x / by_ := Int.ediv_nonneg x0 (by omega)
      have hq1 : x / by_ < 4294967296 := by
        rw [Int.ediv_lt_iff_lt_mul b0]
        have := Int.mul_le_mul_of_nonneg_left (show r + 1 ≤ by_ by omega) (show (0 : Int) ≤ 4294967296 by decide)
        omega
      rw [tdiv_nn x0, tmod_nn x0, wu64_id (n := x / by_) hq0 (by omega), wu32_id hq0 hq1]
      obtain ⟨r', l', g1, g2, g3, g4, g5, g6⟩ := ih j (x % by_) (l.set j (x / by_)) (hd.set _ hq0 hq1) (by simpa using hl) (by omega) (by omega) h2 h3
      refine ⟨r', l', g1, by simpa using g2, g3, g4, ?_, g6⟩
      have hlen : (l.take m).length = m := by rw [List.length_take]; omega
      have hset : (l.set j (x / by_)).take m = (l.take m).set j (x / by_) := List.take_set ..
      have hdrop : ((l.take m).set j (x / by_)).drop (j + 1) = (l.take m).drop (j + 1) := by simp [List.drop_set]
      have htake : ((l.take m).set j (x / by_)).take j = (l.take m).take j := by
        rw [List.take_set, List.set_eq_of_length_le (by rw [List.length_take]; omega)]
      have hget : ((l.take m).set j (x / by_)).getD j 0 = x / by_ := by
        rw [List.getD_eq_getElem?_getD, List.getElem?_set_self (by omega)]; rfl
      have hn1 := nv_drop (4294967296 : Int) ((l.take m).set j (x / by_)) j (by simp; omega)
      have hn2 := nv_take_succ (4294967296 : Int) (l.take m) j (by omega)
      have hg2 : (l.take m).getD j 0 = l.getD j 0 := getD_take (by omega)
      rw [hdrop, hget] at hn1
      rw [hg2] at hn2
      rw [g5, hset, hn1, htake, hn2, Int.pow_succ]
      generalize x / by_ = q at *
      generalize x % by_ = z at *
      have ez : z = x - by_ * q := by omega
      subst ez
      subst hxx
      grind

theorem short_model {N : Nat} (hN : 1000000001 < N) {l : List Int} (hd : Dig (4294967296 : Int) l) {m : Nat} (hm : m ≤ l.length) (hm2 : m ≤ 1000000000) {by_ : Int} (b0 : 0 < by_) (b1 : by_ < 4294967296) :
    ∃ l', Dig (4294967296 : Int) l' ∧ l'.length = l.length ∧ nv (4294967296 : Int) (l'.take m) = nv (4294967296 : Int) (l.take m) / by_ ∧ nat_short.f N 0 m by_ l = some (nv (4294967296 : Int) (l.take m) % by_, l') := by
  obtain ⟨r', l', g1, g2, g3, g4, g5, g6⟩ := short_loop N by_ b0 b1 m hm2 (fun y13 y14 => some (wu32 y13, y14)) N m 0 l hd hm (Nat.le_refl _) (by omega) (Int.le_refl _) b0
  have hlen : (l.take m).length = m := by rw [List.length_take]; omega
  have e1 : (l.take m).drop m = [] := List.drop_eq_nil_iff.mpr (by omega)
  have e2 : (l.take m).take m = l.take m := List.take_of_length_le (by omega)
  rw [e1, e2] at g5
  simp only [nv, Int.mul_zero, Int.zero_mul, Int.zero_add] at g5
  have hu := (Int.ediv_emod_unique (a := nv (4294967296 : Int) (l.take m)) (r := r') (q := nv (4294967296 : Int) (l'.take m)) b0).mpr ⟨by omega, g3, g4⟩
  refine ⟨l', g1, g2, hu.1.symm, ?_⟩
  unfold nat_short.f
  rw [wi64_id (n := (m : Int) - 1) (by omega) (by omega), g6, wu32_id g3 (by omega), hu.2]

/- Decimal digits, the lowest first -/
def rd (v : Nat) : List Int := if h : v = 0 then [] else (48 + (v % 10 : Nat)) :: rd (v / 10)
termination_by v
decreasing_by omega

theorem rd_zero : rd 0 = [] := by unfold rd; rfl
theorem rd_pos {v : Nat} (h : v ≠ 0) : rd v = (48 + ((v % 10 : Nat) : Int)) :: rd (v / 10) := by
  rw [rd]; simp [h]

theorem rd_len : ∀ (k v : Nat), v < 10 ^ k → (rd v).length ≤ k := by
  intro k
  induction k with
  | zero => intro v h; have : v = 0 := by omega
            subst this; rw [rd_zero]; simp
  | succ k ih =>
    intro v h
    by_cases h0 : v = 0
    · subst h0; rw [rd_zero]; simp
    · rw [rd_pos h0, List.length_cons]
      have := ih (v / 10) (by rw [Nat.pow_succ] at h; omega)
      omega

theorem rd_dig : ∀ (v : Nat), AllD (rd v) := by
  intro v
  induction v using Nat.strongRecOn with
  | _ v ih =>
    by_cases h0 : v = 0
    · subst h0; rw [rd_zero]; exact fun x hx => by cases hx
    · rw [rd_pos h0]
      intro x hx
      rcases List.mem_cons.mp hx with rfl | hx
      · omega
      · exact ih (v / 10) (by omega) x hx

/-- One word's digits told. -/
theorem told_loop (N : Nat) {R : Type} (m : Nat) (l : List Int) (w : Nat) (hw : m = 0 ↔ w = 0) (K0 : Nat → Nat → List Int → List Int → Option R) : ∀ (n i : Nat) (r : Nat) (o : List Int), i ≤ 9 → 9 - i < n → r < 10 ^ (9 - i) → (o ++ rd (w * 10 ^ (9 - i) + r)).length ≤ 1000000 →
    ∃ o', o' ++ rd w = o ++ rd (w * 10 ^ (9 - i) + r) ∧ nat_Nat_Text.l9 N n 0 m (r : Int) (i : Int) l o K0 = K0 0 m l o' := by
  intro n
  induction n with
  | zero => intro i r o _ h; omega
  | succ n ih =>
    intro i r o hi hn hr hlen
    rw [nat_Nat_Text.l9]
    by_cases hi9 : i < 9
    · have e0 : decide ((i : Int) < 9) = true := decide_eq_true (by omega)
      have e3 : wi64 ((i : Int) + 1) = ((i + 1 : Nat) : Int) := by rw [wi64_id (by omega) (by omega)]; omega
      obtain ⟨k, hk⟩ : ∃ k, 9 - i = k + 1 := ⟨8 - i, by omega⟩
      have hk2 : 9 - (i + 1) = k := by omega
      have hr9 : r < 1000000000 := by
        have := Nat.pow_le_pow_right (show 0 < 10 by decide) (show 9 - i ≤ 9 by omega)
        have : (10 : Nat) ^ 9 = 1000000000 := by decide
        omega
      rw [hk] at hr hlen ⊢
      rw [Nat.pow_succ] at hr
      have etd : wu32 (Int.tdiv (r : Int) 10) = ((r / 10 : Nat) : Int) := by rw [tdiv_nn (by omega), wu32_id (by omega) (by omega)]; omega
      have etm : wu8 (wu32 (48 + (Int.tmod (r : Int) 10))) = 48 + ((r % 10 : Nat) : Int) := by
        rw [tmod_nn (by omega), wu32_id (by omega) (by omega), wu8_id (by omega) (by omega)]; omega
      have hmod : (w * 10 ^ (k + 1) + r) % 10 = r % 10 := by
        rw [Nat.pow_succ, ← Nat.mul_assoc, Nat.add_mod, Nat.mul_mod_left]; simp
      have hdiv : (w * 10 ^ (k + 1) + r) / 10 = w * 10 ^ k + r / 10 := by
        rw [Nat.pow_succ, ← Nat.mul_assoc, Nat.add_comm, Nat.add_mul_div_right _ _ (by decide), Nat.add_comm]
      have step : w * 10 ^ (k + 1) + r ≠ 0 → ∃ o', o' ++ rd w = o ++ rd (w * 10 ^ (k + 1) + r) ∧ (bif roomy (o.length + 1) 1 then nat_Nat_Text.l9 N n 0 m (wu32 (Int.tdiv (r : Int) 10)) (wi64 ((i : Int) + 1)) l (o ++ [wu8 (wu32 (48 + (Int.tmod (r : Int) 10)))]) K0 else none) = K0 0 m l o' := by
        intro hne
        have hrd := rd_pos hne
        rw [hmod, hdiv] at hrd
        rw [hrd] at hlen ⊢
        have hroom : roomy (o.length + 1) 1 = true := by
          unfold roomy; refine decide_eq_true ?_
          simp at hlen; omega
        rw [hroom, etd, etm, e3]
        simp only [cond_true]
        have h10 : r / 10 < 10 ^ k := by omega
        obtain ⟨o', g1, g2⟩ := ih (i + 1) (r / 10) (o ++ [48 + ((r % 10 : Nat) : Int)]) (by omega) (by omega) (by rw [hk2]; exact h10) (by rw [hk2]; simpa using hlen)
        rw [hk2] at g1
        exact ⟨o', by rw [g1]; simp, g2⟩
      rw [e0]
      simp only [cond_true]
      by_cases hm0 : m = 0
      · have hw0 := hw.mp hm0
        have c1 : decide (((m : Nat) : Int) > 0) = false := decide_eq_false (by omega)
        rw [c1]
        simp only [cond_false]
        by_cases hr0 : r = 0
        · have c2 : decide ((r : Int) > 0) = false := decide_eq_false (by omega)
          rw [c2]
          refine ⟨o, ?_, rfl⟩
          subst hw0; subst hr0; simp
        · have c2 : decide ((r : Int) > 0) = true := decide_eq_true (by omega)
          rw [c2]
          simp only [cond_true]
          exact step (by omega)
      · have c1 : decide (((m : Nat) : Int) > 0) = true := decide_eq_true (by omega)
        rw [c1]
        simp only [cond_true]
        refine step ?_
        have hw1 : w ≠ 0 := fun h => hm0 (hw.mpr h)
        have := Nat.mul_pos (show 0 < w by omega) (show 0 < 10 ^ (k + 1) from Nat.pow_pos (by decide))
        omega
    · have e0 : decide ((i : Int) < 9) = false := decide_eq_false (by omega)
      have hi' : 9 - i = 0 := by omega
      rw [e0]
      rw [hi'] at hr ⊢
      have : r = 0 := by omega
      subst this
      exact ⟨o, by simp, rfl⟩

/-- All digits told. -/
theorem text_loop {N : Nat} (hN : 1000000001 < N) {R : Type} (K0 : List Int → Option R) : ∀ (n k m : Nat) (l o : List Int) (w : Nat), Dig (4294967296 : Int) l → m ≤ l.length → l.length ≤ 1000000000 → nv (4294967296 : Int) (l.take m) = w → (m = 0 ↔ w = 0) → w < 10 ^ k → k < n → (o ++ rd w).length ≤ 1000000 →
    nat_Nat_Text.l5 N n 0 m l o K0 = K0 (o ++ rd w) := by
  intro n
  induction n with
  | zero => intro k m l o w _ _ _ _ _ _ h; omega
  | succ n ih =>
    intro k m l o w hd hm hl hw hmw hwk hn hlen
    rw [nat_Nat_Text.l5]
    by_cases hm0 : m = 0
    · have c1 : decide (((m : Nat) : Int) > 0) = false := decide_eq_false (by omega)
      rw [c1, hmw.mp hm0, rd_zero]; simp
    · have c1 : decide (((m : Nat) : Int) > 0) = true := decide_eq_true (by omega)
      have hw0 : w ≠ 0 := fun h => hm0 (hmw.mpr h)
      obtain ⟨l', g1, g2, g3, g4⟩ := short_model hN hd hm (by omega) (show (0 : Int) < 1000000000 by decide) (by decide)
      rw [hw] at g3 g4
      rw [c1, g4]
      simp only [cond_true, Option.bind_some]
      rw [cut_model hN l' m (by omega) (by omega)]
      simp only [Option.bind_some]
      have hcv := cutN_nv (4294967296 : Int) l' m (by omega)
      have hcle := cutN_le l' m
      have hw' : ((w / 1000000000 : Nat) : Int) = (w : Int) / 1000000000 := by omega
      have hwr : ((w % 1000000000 : Nat) : Int) = (w : Int) % 1000000000 := by omega
      have hz : cutN l' m = 0 ↔ w / 1000000000 = 0 := by
        constructor
        · intro h
          rw [h] at hcv
          simp only [List.take_zero, nv] at hcv
          omega
        · intro h
          rcases Nat.eq_zero_or_pos (cutN l' m) with h1 | h1
          · exact h1
          · exfalso
            have htop := cutN_top l' m h1
            have h0 : nv (4294967296 : Int) (l'.take (cutN l' m)) = 0 := by rw [hcv, g3]; omega
            have hcan : Can (4294967296 : Int) (l'.take (cutN l' m)) := ⟨g1.take _, fun _ => by
              rw [List.length_take, Nat.min_eq_left (by omega), getD_take (by omega)]; exact htop⟩
            have hne := (hcan.pos (by decide)).mp h0
            have : (l'.take (cutN l' m)).length = 0 := by rw [hne]; rfl
            rw [List.length_take] at this
            omega
      have hsplit : w / 1000000000 * 10 ^ (9 - 0) + w % 1000000000 = w := by
        have : (10 : Nat) ^ (9 - 0) = 1000000000 := by decide
        rw [this]; omega
      have hr9 : w % 1000000000 < 10 ^ (9 - 0) := by
        have : (10 : Nat) ^ (9 - 0) = 1000000000 := by decide
        rw [this]; omega
      obtain ⟨o', q1, q2⟩ := told_loop N (cutN l' m) l' (w / 1000000000) hz (fun y18 y19 y20 y21 => nat_Nat_Text.l5 N n y18 y19 y20 y21 K0) N 0 (w % 1000000000) o (by omega) (by omega) hr9 (by rw [hsplit]; exact hlen)
      rw [hsplit] at q1
      rw [hwr] at q2
      have ez : ((0 : Nat) : Int) = 0 := rfl
      rw [ez] at q2
      have hk1 : k ≠ 0 := fun h => by subst h; simp at hwk; omega
      obtain ⟨k, rfl⟩ : ∃ q, k = q + 1 := ⟨k - 1, by omega⟩
      rw [Nat.pow_succ] at hwk
      rw [q2, ih k (cutN l' m) l' o' (w / 1000000000) g1 (by omega) (by omega) (by rw [hcv, g3]; omega) hz (by omega) (by omega) (by rw [q1]; exact hlen), q1]

/-- Turning a row round. -/
theorem turn_loop (N : Nat) {R : Type} (o : List Int) (ho : o.length ≤ 1000000) (K0 : List Int → Option R) : ∀ (n i j : Nat) (l : List Int), i + j + 1 = o.length + 1 → l.length = o.length → (∀ k, k < o.length → l.getD k 0 = if k < i ∨ j ≤ k then o.getD (o.length - 1 - k) 0 else o.getD k 0) → o.length - i < n →
    nat_Nat_Text.l14 N n (i : Int) ((j : Int) - 1) l K0 = K0 o.reverse := by
  intro n
  induction n with
  | zero => intro i j l _ _ _ h; omega
  | succ n ih =>
    intro i j l hij hl hk hn
    rw [nat_Nat_Text.l14]
    by_cases hlt : i + 1 < j
    · have c0 : decide ((i : Int) < (j : Int) - 1) = true := decide_eq_true (by omega)
      have c1 : (decide (0 ≤ (j : Int) - 1) && decide ((j : Int) - 1 < (l.length : Int))) = true := by simp; omega
      have c2 : (decide (0 ≤ (i : Int)) && decide ((i : Int) < (l.length : Int))) = true := by simp; omega
      have e1 : ((j : Int) - 1).toNat = j - 1 := by omega
      have e2 : (i : Int).toNat = i := by omega
      have c3 : (decide (0 ≤ (j : Int) - 1) && decide ((j : Int) - 1 < ((l.set i (l.getD (j - 1) 0)).length : Int))) = true := by simp; omega
      have e3 : wi64 ((i : Int) + 1) = ((i + 1 : Nat) : Int) := by rw [wi64_id (by omega) (by omega)]; omega
      have e4 : wi64 ((j : Int) - 1 - 1) = ((j - 1 : Nat) : Int) - 1 := by rw [wi64_id (by omega) (by omega)]; omega
      rw [c1, c2, c0, e1, e2, c3, e3, e4]
      simp only [cond_true]
      refine ih (i + 1) (j - 1) _ (by omega) (by simpa using hl) (fun k hko => ?_) (by omega)
      have ki := hk i (by omega)
      have kj := hk (j - 1) (by omega)
      have kk := hk k hko
      rw [if_neg (by omega)] at ki kj
      simp only [List.getD_eq_getElem?_getD] at ki kj kk ⊢
      rw [List.getElem?_set, List.getElem?_set]
      by_cases h1 : j - 1 = k
      · subst h1
        rw [if_pos rfl, if_pos (by simp; omega), if_pos (by omega)]
        have e : o.length - 1 - (j - 1) = i := by omega
        rw [e]
        simpa using ki
      · rw [if_neg h1]
        by_cases h2 : i = k
        · subst h2
          rw [if_pos rfl, if_pos (by omega), if_pos (by omega)]
          have e : o.length - 1 - i = j - 1 := by omega
          rw [e]
          simpa using kj
        · rw [if_neg h2, kk]
          by_cases h3 : k < i ∨ j ≤ k
          · rw [if_pos h3, if_pos (by omega)]
          · rw [if_neg h3, if_neg (by omega)]
    · have c0 : decide ((i : Int) < (j : Int) - 1) = false := decide_eq_false (by omega)
      rw [c0]
      have : l = o.reverse := by
        apply List.ext_getElem?
        intro k
        by_cases hko : k < o.length
        · have h := hk k hko
          have hr : l.getD k 0 = o.getD (o.length - 1 - k) 0 := by
            rw [h]
            by_cases h3 : k < i ∨ j ≤ k
            · rw [if_pos h3]
            · rw [if_neg h3]
              have : k = o.length - 1 - k := by omega
              rw [← this]
          rw [List.getElem?_reverse hko]
          simp only [List.getD_eq_getElem?_getD] at hr
          rw [List.getElem?_eq_getElem (by omega), List.getElem?_eq_getElem (by omega)] at hr ⊢
          simpa using hr
        · rw [List.getElem?_eq_none (by omega), List.getElem?_eq_none (by simp; omega)]
      rw [this]; rfl

/-- A number's text. -/
noncomputable def dec (v : Int) : ByteArray := if v = 0 then bytesOfInts [48] else bytesOfInts (rd v.toNat).reverse

theorem str48 : str1 = bytesOfInts [48] := by decide +kernel

theorem pow10_cast (k : Nat) : (10 : Int) ^ k = ((10 ^ k : Nat) : Int) := by simp

theorem lt_pow10 {v : Int} {k : Nat} (h0 : 0 ≤ v) (hk : v < 10 ^ k) : v.toNat < 10 ^ k := by
  rw [pow10_cast] at hk
  omega

theorem lt_1300 {v : Int} (h0 : 0 ≤ v) (hk : v < K) : v.toNat < 10 ^ 1300 := by
  have h := K_lt
  generalize 1300 = k at h ⊢
  exact lt_pow10 h0 (Int.lt_trans hk h)

theorem rd_short {v : Int} (h0 : 0 ≤ v) (hk : v < K) : (rd v.toNat).length ≤ 1300 := rd_len 1300 v.toNat (lt_1300 h0 hk)

theorem text_model {N : Nat} (hN : 1000000001 < N) {v : Int} (h0 : 0 ≤ v) (hk : v < K) : nat_Nat_Text.f N (enc (4294967296 : Int) v) = some (dec v) := by
  obtain ⟨h1, h2⟩ := enc_spec B2 h0
  have hl := enc_len128 h0 hk
  unfold nat_Nat_Text.f dec
  by_cases hv : v = 0
  · subst hv
    rw [enc_zero B2, if_pos rfl, ← str48]; rfl
  · have hne : enc (4294967296 : Int) v ≠ [] := fun h => hv ((enc_nil B2 h0).mp h)
    have hpos : 0 < (enc (4294967296 : Int) v).length := List.length_pos_iff.mpr hne
    have c : (((enc (4294967296 : Int) v).length : Int) == 0) = false := by simp; omega
    rw [c, if_neg hv, roomy4 (by omega)]
    simp only [cond_true, cond_false]
    have hlen := rd_short h0 hk
    rw [text_loop hN _ N 1300 _ _ [] v.toNat h1.dig (Nat.le_refl _) (by omega) (by rw [List.take_length, h2]; omega) (by omega) (lt_1300 h0 hk) (by omega) (by simpa using Nat.le_trans hlen (by decide))]
    simp only [List.nil_append]
    have e : wi64 (((rd v.toNat).length : Int) - 1) = ((rd v.toNat).length : Int) - 1 := wi64_id (by omega) (by omega)
    rw [e]
    have := turn_loop N (rd v.toNat) (by omega) (fun y28 => some (bytesOfInts y28)) N 0 (rd v.toNat).length (rd v.toNat) (by omega) rfl (fun k hk => by rw [if_neg (by omega)]) (by omega)
    exact this

end Go.Proofs.Ytnjlpjdncejfcaa.Pure
