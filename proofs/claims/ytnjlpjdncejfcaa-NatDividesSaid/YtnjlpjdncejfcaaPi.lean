-- Plain laws of the row law01: NatReads: texts, the program's and the document's.
import Derived.Test.YtnjlpjdncejfcaaPh
import Derived.Test.YtnjlpjdncejfcaaPf
namespace Go.Proofs.Ytnjlpjdncejfcaa.Pure
open Go Go.Proofs.Ytnjlpjdncejfcaa.Ev
set_option linter.unusedVariables false
set_option linter.unusedSimpArgs false

theorem bytes_append (a b : List Int) : bytesOfInts a ++ bytesOfInts b = bytesOfInts (a ++ b) := by
  unfold bytesOfInts
  rw [ByteArray.ext_iff, ByteArray.data_append]
  simp

theorem bytes_size (l : List Int) : (bytesOfInts l).size = l.length := by
  unfold bytesOfInts ByteArray.size
  simp

/-- One word's digits told, in front of others. -/
theorem rtold_loop (N : Nat) {R : Type} (l : List Int) (w : Nat) (hw : l.length = 0 ↔ w = 0) (K0 : ByteArray → List Int → Option R) : ∀ (n i : Nat) (r : Nat) (o : List Int), i ≤ 4 → 4 - i < n → r < 10 ^ (4 - i) → (o ++ rd (w * 10 ^ (4 - i) + r)).length ≤ 1000000 →
    ∃ o', o' ++ rd w = o ++ rd (w * 10 ^ (4 - i) + r) ∧ parquetref01_Text.l8 N n (bytesOfInts o.reverse) l (r : Int) (i : Int) K0 = K0 (bytesOfInts o'.reverse) l := by
  intro n
  induction n with
  | zero => intro i r o _ h; omega
  | succ n ih =>
    intro i r o hi hn hr hlen
    rw [parquetref01_Text.l8]
    by_cases hi9 : i < 4
    · have e0 : decide ((i : Int) < 4) = true := decide_eq_true (by omega)
      have e3 : wi64 ((i : Int) + 1) = ((i + 1 : Nat) : Int) := by rw [wi64_id (by omega) (by omega)]; omega
      obtain ⟨k, hk⟩ : ∃ k, 4 - i = k + 1 := ⟨3 - i, by omega⟩
      have hk2 : 4 - (i + 1) = k := by omega
      have hr9 : r < 10000 := by
        have := Nat.pow_le_pow_right (show 0 < 10 by decide) (show 4 - i ≤ 4 by omega)
        have : (10 : Nat) ^ 4 = 10000 := by decide
        omega
      rw [hk] at hr hlen ⊢
      rw [Nat.pow_succ] at hr
      have etd : wu64 (Int.tdiv (r : Int) 10) = ((r / 10 : Nat) : Int) := by rw [tdiv_nn (by omega), wu64_id (by omega) (by omega)]; omega
      have etm : wu8 (wu64 (48 + (Int.tmod (r : Int) 10))) = 48 + ((r % 10 : Nat) : Int) := by
        rw [tmod_nn (by omega), wu64_id (by omega) (by omega), wu8_id (by omega) (by omega)]; omega
      have hmod : (w * 10 ^ (k + 1) + r) % 10 = r % 10 := by
        rw [Nat.pow_succ, ← Nat.mul_assoc, Nat.add_mod, Nat.mul_mod_left]; simp
      have hdiv : (w * 10 ^ (k + 1) + r) / 10 = w * 10 ^ k + r / 10 := by
        rw [Nat.pow_succ, ← Nat.mul_assoc, Nat.add_comm, Nat.add_mul_div_right _ _ (by decide), Nat.add_comm]
      have step : w * 10 ^ (k + 1) + r ≠ 0 → ∃ o', o' ++ rd w = o ++ rd (w * 10 ^ (k + 1) + r) ∧ (bif decide ((((bytesOfInts [wu8 (wu64 (48 + (Int.tmod (r : Int) 10)))]).size + (bytesOfInts o.reverse).size : Nat) : Int) ≤ 9223372036854775807) then
          parquetref01_Text.l8 N n ((bytesOfInts [wu8 (wu64 (48 + (Int.tmod (r : Int) 10)))]) ++ bytesOfInts o.reverse) l (wu64 (Int.tdiv (r : Int) 10)) (wi64 ((i : Int) + 1)) K0 else none) = K0 (bytesOfInts o'.reverse) l := by
        intro hne
        have hrd := rd_pos hne
        rw [hmod, hdiv] at hrd
        rw [hrd] at hlen ⊢
        have hroom : decide ((((bytesOfInts [wu8 (wu64 (48 + (Int.tmod (r : Int) 10)))]).size + (bytesOfInts o.reverse).size : Nat) : Int) ≤ 9223372036854775807) = true := by
          refine decide_eq_true ?_
          rw [bytes_size, bytes_size]
          simp at hlen ⊢; omega
        rw [hroom, etd, etm, e3, bytes_append]
        simp only [cond_true]
        have h10 : r / 10 < 10 ^ k := by omega
        have er : [48 + ((r % 10 : Nat) : Int)] ++ o.reverse = (o ++ [48 + ((r % 10 : Nat) : Int)]).reverse := by simp
        obtain ⟨o', g1, g2⟩ := ih (i + 1) (r / 10) (o ++ [48 + ((r % 10 : Nat) : Int)]) (by omega) (by omega) (by rw [hk2]; exact h10) (by rw [hk2]; simpa using hlen)
        rw [hk2] at g1
        rw [er]
        exact ⟨o', by rw [g1]; simp, g2⟩
      rw [e0]
      simp only [cond_true]
      by_cases hm0 : l.length = 0
      · have hw0 := hw.mp hm0
        have c1 : decide ((l.length : Int) > 0) = false := decide_eq_false (by omega)
        rw [c1]
        simp only [cond_false]
        by_cases hr0 : r = 0
        · have c2 : decide ((r : Int) > 0) = false := decide_eq_false (by omega)
          rw [c2]
          refine ⟨o, ?_, rfl⟩
          subst hw0; subst hr0; simp
        · have c2 : decide ((r : Int) > 0) = true := decide_eq_true (by omega)
          rw [c2]
          simp only [cond_true]
          exact step (by omega)
      · have c1 : decide ((l.length : Int) > 0) = true := decide_eq_true (by omega)
        rw [c1]
        simp only [cond_true]
        refine step ?_
        have hw1 : w ≠ 0 := fun h => hm0 (hw.mpr h)
        have := Nat.mul_pos (show 0 < w by omega) (show 0 < 10 ^ (k + 1) from Nat.pow_pos (by decide))
        omega
    · have e0 : decide ((i : Int) < 4) = false := decide_eq_false (by omega)
      have hi' : 4 - i = 0 := by omega
      rw [e0]
      rw [hi'] at hr ⊢
      have : r = 0 := by omega
      subst this
      exact ⟨o, by simp, rfl⟩

theorem rtext_loop {N : Nat} (hN : 1000000001 < N) {R : Type} (K0 : ByteArray → Option R) : ∀ (n k : Nat) (w : Nat) (o : List Int), w < 10 ^ k → k < n → (enc (65536 : Int) (w : Int)).length ≤ 800000 → (o ++ rd w).length ≤ 1000000 →
    parquetref01_Text.l4 N n (enc (65536 : Int) (w : Int)) (bytesOfInts o.reverse) K0 = K0 (bytesOfInts (o ++ rd w).reverse) := by
  intro n
  induction n with
  | zero => intro k w o _ h; omega
  | succ n ih =>
    intro k w o hwk hn hl hlen
    rw [parquetref01_Text.l4]
    have hz : ∀ w : Nat, (enc (65536 : Int) (w : Int)).length = 0 ↔ w = 0 := fun w => by
      rw [List.length_eq_zero_iff, enc_nil H2 (by omega)]; omega
    by_cases hw0 : w = 0
    · subst hw0
      have c1 : decide (((enc (65536 : Int) ((0 : Nat) : Int)).length : Int) > 0) = false := decide_eq_false (by have := (hz 0).mpr rfl; omega)
      rw [c1, rd_zero]; simp
    · have hq : ¬ (enc (65536 : Int) (w : Int)).length = 0 := fun q => hw0 ((hz w).mp q)
      have c1 : decide (((enc (65536 : Int) (w : Int)).length : Int) > 0) = true := decide_eq_true (by omega)
      rw [c1, rof_model hN (by decide) (by decide)]
      simp only [cond_true, Option.bind_some]
      have h10 : (enc (65536 : Int) 10000).length ≤ 1 := encH_len (by decide) (by decide)
      rw [rdiv_enc hN (by omega) (by decide) hl (by omega)]
      simp only [Option.bind_some]
      have hr : (w : Int) % 10000 = ((w % 10000 : Nat) : Int) := by omega
      have hq : (w : Int) / 10000 = ((w / 10000 : Nat) : Int) := by omega
      rw [hr, hq, rsmall_enc hN (by omega), if_pos (by omega)]
      simp only [Option.bind_some]
      have hsplit : w / 10000 * 10 ^ (4 - 0) + w % 10000 = w := by
        have : (10 : Nat) ^ (4 - 0) = 10000 := by decide
        rw [this]; omega
      have hr9 : w % 10000 < 10 ^ (4 - 0) := by
        have : (10 : Nat) ^ (4 - 0) = 10000 := by decide
        rw [this]; omega
      obtain ⟨o', q1, q2⟩ := rtold_loop N (enc (65536 : Int) ((w / 10000 : Nat) : Int)) (w / 10000) (hz _) (fun y13 y14 => parquetref01_Text.l4 N n y14 y13 K0) N 0 (w % 10000) o (by omega) (by omega) hr9 (by rw [hsplit]; exact hlen)
      rw [hsplit] at q1
      have ez : ((0 : Nat) : Int) = 0 := rfl
      rw [ez] at q2
      have hk1 : k ≠ 0 := fun h => by subst h; simp at hwk; omega
      obtain ⟨k, rfl⟩ : ∃ q, k = q + 1 := ⟨k - 1, by omega⟩
      rw [Nat.pow_succ] at hwk
      have hmono := encH_mono (u := ((w / 10000 : Nat) : Int)) (v := (w : Int)) (by omega) (by omega)
      rw [q2, ih k (w / 10000) o' (by omega) (by omega) (by omega) (by rw [q1]; exact hlen), q1]

theorem rtext_enc {N : Nat} (hN : 1000000001 < N) {v : Int} (h0 : 0 ≤ v) (hk : v < K) : parquetref01_Text.f N (enc (65536 : Int) v) = some (dec v) := by
  unfold parquetref01_Text.f dec
  have hl : (enc (65536 : Int) v).length ≤ 256 := encH_len h0 (by rw [← K_H]; exact hk)
  by_cases hv : v = 0
  · subst hv
    rw [enc_zero H2, if_pos rfl, ← str48]; rfl
  · have hne : enc (65536 : Int) v ≠ [] := fun h => hv ((enc_nil H2 h0).mp h)
    have hpos : 0 < (enc (65536 : Int) v).length := List.length_pos_iff.mpr hne
    have c : (((enc (65536 : Int) v).length : Int) == 0) = false := by simp; omega
    rw [c, if_neg hv]
    simp only [cond_false]
    have hlen := rd_short h0 hk
    have ev : ((v.toNat : Nat) : Int) = v := by omega
    have := rtext_loop hN (fun y16 => some y16) N 1300 v.toNat [] (lt_1300 h0 hk) (by omega) (by rw [ev]; omega) (by simpa using Nat.le_trans hlen (by decide))
    rw [ev] at this
    exact this

/- Digits? -/
theorem rdigits_loop (N : Nat) {R : Type} (s : ByteArray) (hs : s.size ≤ 1000000000) (K0 : Unit → Option R) (Kr : Bool → Option R) : ∀ (n i : Nat), i ≤ s.size → s.size - i < n →
    parquetref01_Digits.l4 N n s (i : Int) K0 Kr = if AllD ((intsOfBytes s).drop i) then K0 () else Kr false := by
  intro n
  induction n with
  | zero => intro i _ h; omega
  | succ n ih =>
    intro i hi hn
    rw [parquetref01_Digits.l4]
    by_cases hil : i < s.size
    · have e0 : decide ((i : Int) < (s.size : Int)) = true := decide_eq_true (by omega)
      have e1 : (decide (0 ≤ (i : Int)) && decide ((i : Int) < (s.size : Int))) = true := by simp; omega
      have e2 : (i : Int).toNat = i := by omega
      have e3 : wi64 ((i : Int) + 1) = ((i + 1 : Nat) : Int) := by rw [wi64_id (by omega) (by omega)]; omega
      have hd : (intsOfBytes s).drop i = byteAt s i :: (intsOfBytes s).drop (i + 1) := by
        have hl := ints_len s
        rw [List.drop_eq_getElem_cons (by omega), byteAt_eq, List.getD_eq_getElem?_getD, List.getElem?_eq_getElem (by omega)]
        rfl
      rw [e1, e0, e2, e3]
      simp only [cond_true]
      by_cases h1 : byteAt s i < 48
      · have : ¬ AllD ((intsOfBytes s).drop i) := fun h => by rw [hd] at h; have := h _ List.mem_cons_self; omega
        rw [if_neg this]
        simp only [h1, decide_true, cond_true]
      · by_cases h2 : byteAt s i > 57
        · have : ¬ AllD ((intsOfBytes s).drop i) := fun h => by rw [hd] at h; have := h _ List.mem_cons_self; omega
          rw [if_neg this]
          simp only [h1, h2, decide_true, decide_false, cond_true, cond_false]
        · simp only [h1, h2, decide_false, cond_false]
          rw [ih (i + 1) (by omega) (by omega)]
          have : AllD ((intsOfBytes s).drop i) ↔ AllD ((intsOfBytes s).drop (i + 1)) := by
            rw [hd]
            refine ⟨fun h x hx => h x (List.mem_cons_of_mem _ hx), fun h x hx => ?_⟩
            rcases List.mem_cons.mp hx with rfl | hx
            · omega
            · exact h x hx
          by_cases h3 : AllD ((intsOfBytes s).drop (i + 1))
          · rw [if_pos h3, if_pos (this.mpr h3)]
          · rw [if_neg h3, if_neg (fun h => h3 (this.mp h))]
    · have e0 : decide ((i : Int) < (s.size : Int)) = false := decide_eq_false (by omega)
      have hd : (intsOfBytes s).drop i = [] := List.drop_eq_nil_iff.mpr (by rw [ints_len]; omega)
      rw [e0, hd, if_pos (show AllD [] from fun x hx => by cases hx)]
      rfl

theorem rdigits_model {N : Nat} (hN : 1000000001 < N) (s : ByteArray) (hs : s.size ≤ 1000000000) : parquetref01_Digits.f N s = some (decide (Num s)) := by
  have tail : parquetref01_Digits.l4 N N s 0 (fun (_ : Unit) => some true) (fun y6 => some y6) = some (decide (AllD (intsOfBytes s))) := by
    have h := rdigits_loop N s hs (fun (_ : Unit) => some true) (fun y6 => some y6) N 0 (by omega) (by omega)
    have ez : ((0 : Nat) : Int) = 0 := rfl
    rw [ez, List.drop_zero] at h
    rw [h]
    by_cases hd : AllD (intsOfBytes s)
    · rw [if_pos hd, decide_eq_true hd]
    · rw [if_neg hd, decide_eq_false hd]
  unfold parquetref01_Digits.f
  by_cases h0 : s.size = 0
  · have c : ((s.size : Int) == 0) = true := beq_iff_eq.mpr (by omega)
    rw [c, decide_eq_false (fun h : Num s => h.1 h0)]; rfl
  · have c : ((s.size : Int) == 0) = false := beq_eq_false_iff_ne.mpr (by omega)
    rw [c]
    simp only [cond_false]
    by_cases h1 : (s.size : Int) > 1
    · have c2 : decide (0 < (s.size : Int)) = true := decide_eq_true (by omega)
      simp only [h1, decide_true, cond_true, c2]
      by_cases h2 : byteAt s 0 = 48
      · have c : (byteAt s 0 == 48) = true := by simpa using h2
        rw [c, decide_eq_false (fun h : Num s => h.2.1 (by omega) h2)]
        rfl
      · have c : (byteAt s 0 == 48) = false := by simpa using h2
        rw [c]
        refine tail.trans ?_
        congr 1
        exact decide_eq_decide.mpr ⟨fun h => ⟨h0, fun _ => h2, h⟩, fun h => h.2.2⟩
    · simp only [h1, decide_false, cond_false]
      refine tail.trans ?_
      congr 1
      exact decide_eq_decide.mpr ⟨fun h => ⟨h0, fun h => absurd h (by omega), h⟩, fun h => h.2.2⟩

/- Reading -/
theorem rread_loop {N : Nat} (hN : 1000000001 < N) {R : Type} (s : ByteArray) (hd : AllD (intsOfBytes s)) (hs : s.size ≤ 1300) (K0 : List Int → Option R) : ∀ (n i : Nat), i ≤ s.size → s.size - i < n →
    parquetref01_Parse.l5 N n s (enc (65536 : Int) (pv ((intsOfBytes s).take i))) (i : Int) K0 = K0 (enc (65536 : Int) (pv (intsOfBytes s))) := by
  intro n
  induction n with
  | zero => intro i _ h; omega
  | succ n ih =>
    intro i hi hn
    rw [parquetref01_Parse.l5]
    have hl := ints_len s
    by_cases hil : i < s.size
    · have e0 : decide ((i : Int) < (s.size : Int)) = true := decide_eq_true (by omega)
      have e1 : (decide (0 ≤ (i : Int)) && decide ((i : Int) < (s.size : Int))) = true := by simp; omega
      have e2 : (i : Int).toNat = i := by omega
      have e3 : wi64 ((i : Int) + 1) = ((i + 1 : Nat) : Int) := by rw [wi64_id (by omega) (by omega)]; omega
      have hb := hd.get (i := i) (by omega)
      have hv := pv_bound (hd.take i)
      have hlt : ((intsOfBytes s).take i).length = i := by rw [List.length_take]; omega
      rw [hlt] at hv
      have small : ∀ (v : Int) (k : Nat), 0 ≤ v → v < 10 ^ k → (enc (65536 : Int) v).length ≤ k := fun v k h0 h1 => by
        refine encH_len h0 ?_
        have : (10 : Int) ^ k ≤ (65536 : Int) ^ k := by
          have := Nat.pow_le_pow_left (show 10 ≤ 65536 by decide) k
          have e1 : (10 : Int) ^ k = ((10 ^ k : Nat) : Int) := by simp
          have e2 : (65536 : Int) ^ k = ((65536 ^ k : Nat) : Int) := by simp
          rw [e1, e2]; omega
        omega
      have l1 := small _ _ hv.1 hv.2
      have l2 : (enc (65536 : Int) 10).length ≤ 2 := small 10 2 (by decide) (by decide)
      have l3 := encH_len_mul hv.1 (show (0 : Int) ≤ 10 by decide)
      have p2 : (10 : Int) ^ 2 = 100 := by decide
      have l4 := small ((intsOfBytes s).getD i 0 - 48) 2 (by omega) (by omega)
      rw [e1, e0, e2, e3, rof_model hN (by decide) (by decide)]
      simp only [cond_true, Option.bind_some]
      rw [rmul_enc hN hv.1 (by decide) (by omega) (by omega)]
      simp only [Option.bind_some]
      rw [byteAt_eq, wu8_id (n := (intsOfBytes s).getD i 0 - 48) (by omega) (by omega), wu64_id (n := (intsOfBytes s).getD i 0 - 48) (by omega) (by omega), rof_model hN (by omega) (by omega)]
      simp only [Option.bind_some]
      rw [radd_enc hN (by omega) (by omega) (by omega) (by omega)]
      simp only [Option.bind_some]
      have : pv ((intsOfBytes s).take i) * 10 + ((intsOfBytes s).getD i 0 - 48) = pv ((intsOfBytes s).take (i + 1)) := by
        rw [pv_take_succ _ i (by omega)]; omega
      rw [this]
      exact ih (i + 1) (by omega) (by omega)
    · have e0 : decide ((i : Int) < (s.size : Int)) = false := decide_eq_false (by omega)
      have hie : i = s.size := by omega
      rw [e0, List.take_of_length_le (by omega)]; rfl

theorem rparse_model {N : Nat} (hN : 1000000001 < N) {s : ByteArray} (h : Num s) : parquetref01_Parse.f N s = some (if pv (intsOfBytes s) < K then (enc (65536 : Int) (pv (intsOfBytes s)), true) else ([], false)) := by
  unfold parquetref01_Parse.f
  by_cases hl : 1300 < s.size
  · have c : decide ((s.size : Int) > 1300) = true := decide_eq_true (by omega)
    rw [c, if_neg (h.long hl)]; rfl
  · have c : decide ((s.size : Int) > 1300) = false := decide_eq_false (by omega)
    rw [c]
    simp only [cond_false]
    have := rread_loop hN s h.2.2 (by omega) (fun y10 => (parquetref01_Long.f N y10).bind fun r11 => bif r11 then some (([], false) : List Int × Bool) else some (y10, true)) N 0 (by omega) (by omega)
    have ez : ((0 : Nat) : Int) = 0 := rfl
    have ep : pv ((intsOfBytes s).take 0) = 0 := by simp [pv]
    rw [ez, ep, enc_zero H2] at this
    rw [this]
    have hb := pv_bound h.2.2
    have hsl : (enc (65536 : Int) (pv (intsOfBytes s))).length ≤ 1300 := by
      refine encH_len hb.1 ?_
      rw [ints_len] at hb
      have h1 := pow10_mono (show s.size ≤ 1300 by omega)
      have h2 : ∀ k : Nat, (10 : Int) ^ k ≤ (65536 : Int) ^ k := fun k => by
        have := Nat.pow_le_pow_left (show 10 ≤ 65536 by decide) k
        have e1 : (10 : Int) ^ k = ((10 ^ k : Nat) : Int) := by simp
        have e2 : (65536 : Int) ^ k = ((65536 ^ k : Nat) : Int) := by simp
        rw [e1, e2]; omega
      have h3 := h2 1300
      generalize 1300 = k at h1 h3 ⊢
      omega
    rw [rlong_enc hN hb.1 (by omega)]
    simp only [Option.bind_some]
    by_cases hk : pv (intsOfBytes s) < K
    · rw [if_pos hk]; simp [hk]
    · rw [if_neg hk]; simp [hk]

/-- What is read, both ways. -/
theorem read_model {N : Nat} (hN : 1000000001 < N) (s : ByteArray) (hs : s.size ≤ 1000000000) : ∃ v, Rg v ∧ parquetlaw01_read.f N s = some (enc (4294967296 : Int) v, enc (65536 : Int) v, true) := by
  have z := K_pos
  have t0 : nat_Nat_Text.f N [] = some str1 := rfl
  unfold parquetlaw01_read.f
  rw [parse_model hN s hs, rdigits_model hN s hs]
  simp only [Option.bind_some]
  by_cases hn : Num s
  · rw [if_pos hn, decide_eq_true hn, rparse_model hN hn]
    simp only [Bool.not_true, cond_false, Option.bind_some]
    unfold out
    by_cases hk : pv (intsOfBytes s) < K
    · rw [if_pos hk, if_pos hk]
      exact ⟨_, ⟨(pv_bound hn.2.2).1, hk⟩, rfl⟩
    · rw [if_neg hk, if_neg hk]
      refine ⟨0, ⟨Int.le_refl _, z⟩, ?_⟩
      rw [enc_zero B2, enc_zero H2]
      simp [t0]
  · rw [if_neg hn, decide_eq_false hn]
    refine ⟨0, ⟨Int.le_refl _, z⟩, ?_⟩
    rw [enc_zero B2, enc_zero H2]
    simp [t0]

theorem NatReads (s : ByteArray) (n : Int) (w1 : s.size ≤ 140737488351232) (w2 : (Lit.int .u64 n).wf = true) : ∃ N, parquetlaw01_NatReads.f N s n = some true := by
  refine ⟨8589934700, ?_⟩
  have hN : 1000000001 < 8589934700 := by decide
  have hw := works_true
  generalize 8589934700 = N at *
  obtain ⟨b, hb1, hb2⟩ := beyond1 N s
  obtain ⟨n0, n1⟩ := wf_u64 w2
  have hr : Rg n := ⟨n0, by have := K_big; omega⟩
  unfold parquetlaw01_NatReads.f
  rw [hw, hb1]
  cases b
  · have s1 := hb2 rfl
    obtain ⟨v, rv, h⟩ := read_model hN s (by omega)
    have hl1 := enc_len128 rv.lo rv.hi
    have hl2 : (enc (65536 : Int) v).length ≤ 256 := encH_len rv.lo (by rw [← K_H]; exact rv.hi)
    obtain ⟨e1, e2⟩ := enc_spec B2 rv.lo
    simp only [Option.bind_some, Bool.not_true, cond_false]
    rw [h]
    simp only [Option.bind_some, Bool.not_true, cond_false]
    rw [u64_model N rv.lo, rsmall_enc hN rv.lo, of_model hN n0 n1]
    simp only [Option.bind_some]
    rw [u64_model N n0, if_pos n1, bits_model N e1 (by omega), e2, rbits_enc hN rv.lo (by omega)]
    simp only [Option.bind_some, beq_self_eq_true, cond_true]
    rw [text_model hN rv.lo rv.hi, rtext_enc hN rv.lo rv.hi]
    simp only [Option.bind_some, beq_self_eq_true, cond_true]
    rw [text_model hN n0 hr.hi, rof_model hN n0 n1]
    simp only [Option.bind_some]
    rw [rtext_enc hN n0 hr.hi]
    simp
  · rfl

end Go.Proofs.Ytnjlpjdncejfcaa.Pure
