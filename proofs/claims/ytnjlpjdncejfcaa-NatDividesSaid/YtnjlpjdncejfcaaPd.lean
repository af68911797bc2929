-- Plain laws of the row law01: a text read as a number; the program's way.
import Derived.Test.YtnjlpjdncejfcaaPc
namespace Go.Proofs.Ytnjlpjdncejfcaa.Pure
open Go Go.Proofs.Ytnjlpjdncejfcaa.Ev
set_option linter.unusedVariables false
set_option linter.unusedSimpArgs false

/- A text's bytes -/
theorem toList_loop (s : ByteArray) : ∀ (n i : Nat) (r : List UInt8), s.size - i = n → ByteArray.toList.loop s i r = r.reverse ++ s.data.toList.drop i := by
  intro n
  induction n with
  | zero =>
    intro i r h
    unfold ByteArray.toList.loop
    have hsz : s.data.toList.length = s.size := by rw [Array.length_toList]; rfl
    rw [if_neg (by omega), List.drop_eq_nil_iff.mpr (by omega), List.append_nil]
  | succ n ih =>
    intro i r h
    have hsz : s.data.toList.length = s.size := by rw [Array.length_toList]; rfl
    unfold ByteArray.toList.loop
    rw [if_pos (by omega), ih (i + 1) _ (by omega), List.reverse_cons, List.append_assoc, List.drop_eq_getElem_cons (show i < s.data.toList.length by omega)]
    congr 1
    simp only [List.singleton_append]
    congr 1
    show s.data[i]! = _
    rw [getElem!_pos s.data i (by rw [Array.length_toList] at hsz; omega)]
    rfl
theorem toList_eq (s : ByteArray) : s.toList = s.data.toList := by
  unfold ByteArray.toList
  rw [toList_loop s _ 0 [] rfl]; simp
theorem ints_len (s : ByteArray) : (intsOfBytes s).length = s.size := by
  unfold intsOfBytes; rw [List.length_map, Array.length_toList]; rfl
theorem extract_ints (s : ByteArray) (a : Nat) : intsOfBytes (s.extract a s.size) = (intsOfBytes s).drop a := by
  unfold intsOfBytes
  rw [ByteArray.data_extract, Array.toList_extract, ← List.map_drop]
  congr 1
  have hsz : s.data.toList.length = s.size := by rw [Array.length_toList]; rfl
  rw [List.extract_eq_take_drop]
  rw [List.take_of_length_le (by rw [List.length_drop]; omega)]
theorem toList_beq_empty (s : ByteArray) : (s.toList == ByteArray.empty.toList) = decide (s.size = 0) := by
  have hsz : s.data.toList.length = s.size := by rw [Array.length_toList]; rfl
  rw [toList_eq, toList_eq]
  have h2 : ByteArray.empty.data.toList = [] := rfl
  rw [h2]
  cases hl : s.data.toList with
  | nil => rw [hl] at hsz; have : s.size = 0 := hsz.symm; rw [this]; rfl
  | cons x l => rw [hl] at hsz; have : ¬ s.size = 0 := by simp at hsz; omega
                rw [decide_eq_false this]; rfl

theorem byteAt_eq (s : ByteArray) (i : Nat) : byteAt s i = (intsOfBytes s).getD i 0 := by
  unfold byteAt intsOfBytes
  simp only [List.getD_eq_getElem?_getD, List.getElem?_map]
  cases s.data.toList[i]? <;> rfl

theorem byte_bound (s : ByteArray) (i : Nat) : 0 ≤ byteAt s i ∧ byteAt s i < 256 := by
  unfold byteAt
  have := (s.data.toList.getD i 0).toNat_lt
  omega

/-- The number that decimal digits are. -/
def pv : List Int → Int
  | [] => 0
  | x :: r => (x - 48) * 10 ^ r.length + pv r

def AllD (l : List Int) : Prop := ∀ x ∈ l, 48 ≤ x ∧ x ≤ 57
instance (l : List Int) : Decidable (AllD l) := inferInstanceAs (Decidable (∀ x ∈ l, _))

theorem pv_append : ∀ l m : List Int, pv (l ++ m) = pv l * 10 ^ m.length + pv m
  | [], m => by simp [pv]
  | x :: l, m => by
    simp only [List.cons_append, pv, pv_append l m, List.length_append, Int.pow_add]
    grind

theorem pv_bound : ∀ {l : List Int}, AllD l → 0 ≤ pv l ∧ pv l < 10 ^ l.length
  | [], _ => by simp [pv]
  | x :: l, h => by
    obtain ⟨h1, h2⟩ := pv_bound (l := l) (fun y hy => h y (List.mem_cons_of_mem _ hy))
    obtain ⟨h3, h4⟩ := h x List.mem_cons_self
    have hp : (0 : Int) < 10 ^ l.length := Int.pow_pos (by decide)
    simp only [pv, List.length_cons, Int.pow_succ]
    have p1 := Int.mul_nonneg (show 0 ≤ x - 48 by omega) (Int.le_of_lt hp)
    have p2 := Int.mul_le_mul_of_nonneg_right (show x - 48 ≤ 9 by omega) (Int.le_of_lt hp)
    omega

theorem AllD.take {l : List Int} (h : AllD l) (n : Nat) : AllD (l.take n) := fun x hx => h x (List.mem_of_mem_take hx)
theorem AllD.drop {l : List Int} (h : AllD l) (n : Nat) : AllD (l.drop n) := fun x hx => h x (List.mem_of_mem_drop hx)
theorem AllD.get {l : List Int} (h : AllD l) {i : Nat} (hi : i < l.length) : 48 ≤ l.getD i 0 ∧ l.getD i 0 ≤ 57 := by
  rw [List.getD_eq_getElem?_getD, List.getElem?_eq_getElem hi]
  exact h _ (List.getElem_mem hi)

theorem pv_take_succ (l : List Int) (i : Nat) (hi : i < l.length) : pv (l.take (i + 1)) = 10 * pv (l.take i) + (l.getD i 0 - 48) := by
  have e : l.take (i + 1) = l.take i ++ [l.getD i 0] := by
    rw [List.take_add_one, List.getD_eq_getElem?_getD, List.getElem?_eq_getElem hi]; rfl
  rw [e, pv_append]
  simp [pv]
  omega

/- All digits? -/
theorem digits_loop (N : Nat) {R : Type} (s : ByteArray) (hs : s.size ≤ 1000000000) (K0 : ByteArray → Option R) (Kr : List Int → Int → Option R) : ∀ (n i : Nat), i ≤ s.size → s.size - i < n →
    nat_Parse.l4 N n s (s.size : Int) (i : Int) K0 Kr = if AllD ((intsOfBytes s).drop i) then K0 s else Kr [] 12 := by
  intro n
  induction n with
  | zero => intro i _ h; omega
  | succ n ih =>
    intro i hi hn
    rw [nat_Parse.l4]
    by_cases hil : i < s.size
    · have e0 : decide ((i : Int) < (s.size : Int)) = true := decide_eq_true (by omega)
      have e1 : (decide (0 ≤ (i : Int)) && decide ((i : Int) < (s.size : Int))) = true := by simp; omega
      have e2 : (i : Int).toNat = i := by omega
      have e3 : wi64 ((i : Int) + 1) = ((i + 1 : Nat) : Int) := by rw [wi64_id (by omega) (by omega)]; omega
      have hd : (intsOfBytes s).drop i = byteAt s i :: (intsOfBytes s).drop (i + 1) := by
        have hl := ints_len s
        rw [List.drop_eq_getElem_cons (by omega), byteAt_eq, List.getD_eq_getElem?_getD, List.getElem?_eq_getElem (by omega)]
        rfl
      rw [e1, e0, e2, e3]
      simp only [cond_true]
      by_cases h1 : byteAt s i < 48
      · have : ¬ AllD ((intsOfBytes s).drop i) := fun h => by rw [hd] at h; have := h _ List.mem_cons_self; omega
        rw [if_neg this]
        simp only [h1, decide_true, cond_true]
      · by_cases h2 : byteAt s i > 57
        · have : ¬ AllD ((intsOfBytes s).drop i) := fun h => by rw [hd] at h; have := h _ List.mem_cons_self; omega
          rw [if_neg this]
          simp only [h1, h2, decide_true, decide_false, cond_true, cond_false]
        · simp only [h1, h2, decide_false, cond_false]
          rw [ih (i + 1) (by omega) (by omega)]
          have : AllD ((intsOfBytes s).drop i) ↔ AllD ((intsOfBytes s).drop (i + 1)) := by
            rw [hd]
            refine ⟨fun h x hx => h x (List.mem_cons_of_mem _ hx), fun h x hx => ?_⟩
            rcases List.mem_cons.mp hx with rfl | hx
            · omega
            · exact h x hx
          by_cases h3 : AllD ((intsOfBytes s).drop (i + 1))
          · rw [if_pos h3, if_pos (this.mpr h3)]
          · rw [if_neg h3, if_neg (fun h => h3 (this.mp h))]
    · have e0 : decide ((i : Int) < (s.size : Int)) = false := decide_eq_false (by omega)
      have hd : (intsOfBytes s).drop i = [] := List.drop_eq_nil_iff.mpr (by rw [ints_len]; omega)
      rw [e0, hd, if_pos (show AllD [] from fun x hx => by cases hx)]
      rfl

theorem pow10_le {i : Nat} (h : i ≤ 9) : (10 : Int) ^ i ≤ 1000000000 := by
  rcases (show i = 0 ∨ i = 1 ∨ i = 2 ∨ i = 3 ∨ i = 4 ∨ i = 5 ∨ i = 6 ∨ i = 7 ∨ i = 8 ∨ i = 9 by omega) with h | h | h | h | h | h | h | h | h | h <;> subst h <;> decide

/- Some digits read -/
theorem chunk_loop (N : Nat) {R : Type} (s : ByteArray) (hd : AllD (intsOfBytes s)) (p : Int) (m : Nat) (hm : m ≤ 9) (hms : m ≤ s.size) (d : List Int) (K0 : ByteArray → Int → Int → Int → List Int → Option R) : ∀ (n i : Nat), i ≤ m → m - i < n →
    nat_Parse.l16 N n s p (pv ((intsOfBytes s).take i)) (10 ^ i) (m : Int) (i : Int) d K0 = K0 s p (pv ((intsOfBytes s).take m)) (10 ^ m) d := by
  intro n
  induction n with
  | zero => intro i _ h; omega
  | succ n ih =>
    intro i hi hn
    rw [nat_Parse.l16]
    have hl := ints_len s
    by_cases hil : i < m
    · have e0 : decide ((i : Int) < (m : Int)) = true := decide_eq_true (by omega)
      have e1 : (decide (0 ≤ (i : Int)) && decide ((i : Int) < (s.size : Int))) = true := by simp; omega
      have e2 : (i : Int).toNat = i := by omega
      have e3 : wi64 ((i : Int) + 1) = ((i + 1 : Nat) : Int) := by rw [wi64_id (by omega) (by omega)]; omega
      have hb := hd.get (i := i) (by omega)
      have hv := pv_bound (hd.take i)
      have hlt : ((intsOfBytes s).take i).length = i := by rw [List.length_take]; omega
      rw [hlt] at hv
      have hp := pow10_le (i := i) (by omega)
      have hp0 : (0 : Int) < 10 ^ i := Int.pow_pos (by decide)
      rw [e1, e0, e2, e3]
      simp only [cond_true]
      rw [byteAt_eq, wu8_id (n := (intsOfBytes s).getD i 0 - 48) (by omega) (by omega), wu64_id (n := (intsOfBytes s).getD i 0 - 48) (by omega) (by omega), wu64_id (n := 10 * pv ((intsOfBytes s).take i)) (by omega) (by omega), wu64_id (n := 10 * 10 ^ i) (by omega) (by omega), wu64_id (by omega) (by omega)]
      have e4 : (10 : Int) * 10 ^ i = 10 ^ (i + 1) := by rw [Int.pow_succ]; omega
      rw [e4, ← pv_take_succ _ i (by omega)]
      exact ih (i + 1) (by omega) (by omega)
    · have e0 : decide ((i : Int) < (m : Int)) = false := decide_eq_false (by omega)
      have : i = m := by omega
      subst this
      rw [e0]; rfl

/- A number times another, and some more -/
theorem scale_loop (N : Nat) {R : Type} (s : ByteArray) (p by_ : Int) (hby : by_ ≤ 1000000000) (K0 : ByteArray → Int → Int → List Int → Option R) : ∀ (n i : Nat) (c : Int) (d : List Int), Dig (4294967296 : Int) d → d.length ≤ 1000000000 → i ≤ d.length → d.length - i < n → 0 ≤ c → c < by_ →
    ∃ r c', Dig (4294967296 : Int) r ∧ 0 ≤ c' ∧ c' < by_ ∧ r.length = d.length ∧ nv (4294967296 : Int) r + (4294967296 : Int) ^ d.length * c' = nv (4294967296 : Int) d + (4294967296 : Int) ^ i * c + (4294967296 : Int) ^ i * (by_ - 1) * nv (4294967296 : Int) (d.drop i) ∧
      nat_Parse.l21 N n s p c by_ (d.length : Int) (i : Int) d K0 = K0 s p c' r := by
  intro n
  induction n with
  | zero => intro i c d _ _ _ h; omega
  | succ n ih =>
    intro i c d hd hdl hi hn c0 c1
    rw [nat_Parse.l21]
    by_cases hil : i < d.length
    · have e0 : decide ((i : Int) < (d.length : Int)) = true := decide_eq_true (by omega)
      have e1 : (decide (0 ≤ (i : Int)) && decide ((i : Int) < (d.length : Int))) = true := by simp; omega
      have e2 : (i : Int).toNat = i := by omega
      have e3 : wi64 ((i : Int) + 1) = ((i + 1 : Nat) : Int) := by rw [wi64_id (by omega) (by omega)]; omega
      have hx := hd.get (by decide) i
      have m0 := Int.mul_nonneg hx.1 (show 0 ≤ by_ by omega)
      have m1 : d.getD i 0 * by_ ≤ 4294967295 * by_ := Int.mul_le_mul_of_nonneg_right (by omega) (by omega)
      have p32 : (2 : Int) ^ 32 = 4294967296 := by decide
      rw [e1, e0, e2, e3]
      simp only [cond_true]
      rw [wu64_id (n := d.getD i 0) (by omega) (by omega), wu64_id (n := d.getD i 0 * by_) (by omega) (by omega), wu64_id (n := d.getD i 0 * by_ + c) (by omega) (by omega), fdiv_pow, p32, wu32_mod]
      generalize hs : d.getD i 0 * by_ + c = x
      have hsd := step_digit x
      have hlen : (d.set i (x % 4294967296)).length = d.length := by simp
      obtain ⟨r, c', r1, r2, r3, r4, r5, r6⟩ := ih (i + 1) (x / 4294967296) (d.set i (x % 4294967296)) (hd.set _ (by omega) (by omega)) (by omega) (by omega) (by omega) (by omega) (by omega)
      rw [hlen] at r4 r5 r6
      refine ⟨r, c', r1, r2, r3, r4, ?_, r6⟩
      have hdrop : (d.set i (x % 4294967296)).drop (i + 1) = d.drop (i + 1) := by simp [List.drop_set]
      rw [r5, nv_set _ _ d i hil, hdrop, nv_drop _ d i hil, Int.pow_succ]
      generalize x % 4294967296 = m at *
      generalize x / 4294967296 = z at *
      have em : m = x - 4294967296 * z := by omega
      subst em
      subst hs
      grind
    · have e0 : decide ((i : Int) < (d.length : Int)) = false := decide_eq_false (by omega)
      have hie : i = d.length := by omega
      have hz : d.drop i = [] := List.drop_eq_nil_iff.mpr (by omega)
      rw [e0]
      refine ⟨d, c, hd, c0, c1, rfl, ?_, rfl⟩
      rw [hz, hie]; simp [nv]

/- All of a text -/
theorem read_loop {N : Nat} (hN : 1000000001 < N) {R : Type} (K0 : List Int → Option R) : ∀ (n : Nat) (s : ByteArray) (d : List Int), AllD (intsOfBytes s) → Dig (4294967296 : Int) d → s.size + d.length ≤ 1000000 → s.size < n →
    ∃ r, Dig (4294967296 : Int) r ∧ r.length ≤ s.size + d.length ∧ nv (4294967296 : Int) r = nv (4294967296 : Int) d * 10 ^ s.size + pv (intsOfBytes s) ∧ nat_Parse.l12 N n s d K0 = K0 r := by
  intro n
  induction n with
  | zero => intro s d _ _ _ h; omega
  | succ n ih =>
    intro s d hs hd hl hn
    rw [nat_Parse.l12]
    by_cases h0 : s.size = 0
    · have e0 : decide ((s.size : Int) > 0) = false := decide_eq_false (by omega)
      have : intsOfBytes s = [] := List.length_eq_zero_iff.mp (by rw [ints_len]; exact h0)
      rw [e0]
      refine ⟨d, hd, by omega, ?_, rfl⟩
      rw [this, h0]; simp [pv]
    · have e0 : decide ((s.size : Int) > 0) = true := decide_eq_true (by omega)
      obtain ⟨m, hm⟩ : ∃ m : Nat, m = (s.size - 1) % 9 + 1 := ⟨_, rfl⟩
      have hm9 : 1 ≤ m ∧ m ≤ 9 ∧ m ≤ s.size := by have := Nat.mod_le (s.size - 1) 9; omega
      have em : wi64 ((Int.tmod (wi64 ((s.size : Int) - 1)) 9) + 1) = (m : Int) := by
        rw [wi64_id (n := (s.size : Int) - 1) (by omega) (by omega), tmod_nn (by omega), wi64_id (by omega) (by omega)]; omega
      rw [e0, em]
      simp only [cond_true]
      have c1 := chunk_loop N s hs (m : Int) m hm9.2.1 hm9.2.2 d (fun y23 y24 y25 y26 y27 =>
          nat_Parse.l21 N N y23 y24 y25 y26 (y27.length : Int) 0 y27
            (fun y39 y40 y41 y42 =>
              bif decide (y41 > 0) then
                bif roomy (y42.length + 1) 4 then
                  bif (((decide (0 ≤ y40)) && (decide (y40 ≤ (y39.size : Int)))) && (decide ((y39.size : Int) ≤ (y39.size : Int)))) && (decide ((y39.size : Int) ≤ (y39.size : Int))) then
                    nat_Parse.l12 N n (y39.extract y40.toNat ((y39.size : Int).toNat)) (y42 ++ [wu32 y41]) K0
                  else none
                else none
              else
              bif (((decide (0 ≤ y40)) && (decide (y40 ≤ (y39.size : Int)))) && (decide ((y39.size : Int) ≤ (y39.size : Int)))) && (decide ((y39.size : Int) ≤ (y39.size : Int))) then
                nat_Parse.l12 N n (y39.extract y40.toNat ((y39.size : Int).toNat)) y42 K0
              else none)) N 0 (by omega) (by omega)
      have ez : ((0 : Nat) : Int) = 0 := rfl
      have ep : pv ((intsOfBytes s).take 0) = 0 := by simp [pv]
      have eq : (10 : Int) ^ 0 = 1 := rfl
      rw [ez, ep, eq] at c1
      rw [c1]
      have hv := pv_bound (hs.take m)
      have hlt : ((intsOfBytes s).take m).length = m := by rw [List.length_take, ints_len]; omega
      rw [hlt] at hv
      obtain ⟨r, c', r1, r2, r3, r4, r5, r6⟩ := scale_loop N s (m : Int) (10 ^ m) (pow10_le hm9.2.1) (fun y39 y40 y41 y42 =>
              bif decide (y41 > 0) then
                bif roomy (y42.length + 1) 4 then
                  bif (((decide (0 ≤ y40)) && (decide (y40 ≤ (y39.size : Int)))) && (decide ((y39.size : Int) ≤ (y39.size : Int)))) && (decide ((y39.size : Int) ≤ (y39.size : Int))) then
                    nat_Parse.l12 N n (y39.extract y40.toNat ((y39.size : Int).toNat)) (y42 ++ [wu32 y41]) K0
                  else none
                else none
              else
              bif (((decide (0 ≤ y40)) && (decide (y40 ≤ (y39.size : Int)))) && (decide ((y39.size : Int) ≤ (y39.size : Int)))) && (decide ((y39.size : Int) ≤ (y39.size : Int))) then
                nat_Parse.l12 N n (y39.extract y40.toNat ((y39.size : Int).toNat)) y42 K0
              else none) N 0 (pv ((intsOfBytes s).take m)) d hd (by omega) (by omega) (by omega) hv.1 hv.2
      rw [ez] at r6
      rw [r6]
      have cok : (((decide (0 ≤ (m : Int)) && decide ((m : Int) ≤ (s.size : Int))) && decide ((s.size : Int) ≤ (s.size : Int))) && decide ((s.size : Int) ≤ (s.size : Int))) = true := by simp; omega
      have et : (s.size : Int).toNat = s.size := by omega
      have et2 : (m : Int).toNat = m := by omega
      have hx := extract_ints s m
      have hxs : (s.extract m s.size).size = s.size - m := by rw [← ints_len, hx, List.length_drop, ints_len]
      have hsplit : pv (intsOfBytes s) = pv ((intsOfBytes s).take m) * 10 ^ (s.size - m) + pv ((intsOfBytes s).drop m) := by
        have := pv_append ((intsOfBytes s).take m) ((intsOfBytes s).drop m)
        rw [List.take_append_drop, List.length_drop, ints_len] at this
        exact this
      have hpow : (10 : Int) ^ s.size = 10 ^ m * 10 ^ (s.size - m) := by rw [← Int.pow_add]; congr 1; omega
      have hval : nv (4294967296 : Int) r + (4294967296 : Int) ^ d.length * c' = nv (4294967296 : Int) d * 10 ^ m + pv ((intsOfBytes s).take m) := by
        rw [r5, List.drop_zero]; simp; grind
      have c1000 := pow10_le hm9.2.1
      by_cases hc : c' > 0
      · have hr := roomy4 (n := r.length + 1) (by omega)
        simp only [hc, decide_true, cond_true, hr]
        rw [cok, et, et2, wu32_id r2 (by omega)]
        simp only [cond_true]
        obtain ⟨t, t1, t2, t3, t4⟩ := ih (s.extract m s.size) (r ++ [c']) (by rw [hx]; exact hs.drop m) (r1.append (Dig.cons r2 (by omega) (Dig.nil _))) (by rw [hxs]; simp; omega) (by omega)
        refine ⟨t, t1, by rw [hxs] at t2; simp at t2; omega, ?_, t4⟩
        rw [t3, hxs, hx, nv_append, r4, hsplit, hpow]
        simp only [nv, Int.mul_zero, Int.add_zero]
        rw [hval]
        grind
      · have hc0 : c' = 0 := by omega
        simp only [hc, decide_false, cond_false]
        rw [cok, et, et2]
        simp only [cond_true]
        obtain ⟨t, t1, t2, t3, t4⟩ := ih (s.extract m s.size) r (by rw [hx]; exact hs.drop m) r1 (by rw [hxs]; omega) (by omega)
        refine ⟨t, t1, by rw [hxs] at t2; omega, ?_, t4⟩
        rw [hc0] at hval
        simp only [Int.mul_zero, Int.add_zero] at hval
        rw [t3, hxs, hx, hsplit, hpow, hval]
        grind

/-- Is a text written as a number is? -/
def Num (s : ByteArray) : Prop := s.size ≠ 0 ∧ (s.size > 1 → byteAt s 0 ≠ 48) ∧ AllD (intsOfBytes s)
instance (s : ByteArray) : Decidable (Num s) := inferInstanceAs (Decidable (_ ∧ _))

theorem pv_lower {l : List Int} (hd : AllD l) (hne : l ≠ []) (h0 : l.getD 0 0 ≠ 48) : 10 ^ (l.length - 1) ≤ pv l := by
  cases l with
  | nil => exact absurd rfl hne
  | cons x l =>
    have hx := hd x List.mem_cons_self
    have h1 := pv_bound (l := l) (fun y hy => hd y (List.mem_cons_of_mem _ hy))
    have h2 : x ≠ 48 := by simpa using h0
    have hp : (0 : Int) ≤ 10 ^ l.length := Int.le_of_lt (Int.pow_pos (by decide))
    have := Int.mul_le_mul_of_nonneg_right (show 1 ≤ x - 48 by omega) hp
    simp only [pv, List.length_cons, Nat.add_sub_cancel]
    omega

theorem K_lt : K < 10 ^ 1300 := by unfold K; decide +kernel

theorem pow10_mono {i j : Nat} (h : i ≤ j) : (10 : Int) ^ i ≤ 10 ^ j := by
  have := Nat.pow_le_pow_right (show 0 < 10 by decide) h
  have e : ∀ k : Nat, (10 : Int) ^ k = ((10 ^ k : Nat) : Int) := fun k => by simp
  rw [e, e]; omega

theorem Num.long {s : ByteArray} (h : Num s) (hl : 1300 < s.size) : ¬ pv (intsOfBytes s) < K := by
  have h1 := pv_lower h.2.2 (fun e => by have := ints_len s; rw [e] at this; simp at this; omega) (by rw [← byteAt_eq]; exact h.2.1 (by omega))
  rw [ints_len] at h1
  have := pow10_mono (show 1300 ≤ s.size - 1 by omega)
  have := K_lt
  omega

/-- What a text is read as. -/
theorem parse_model {N : Nat} (hN : 1000000001 < N) (s : ByteArray) (hs : s.size ≤ 1000000000) : nat_Parse.f N s = some (if Num s then out (pv (intsOfBytes s)) else ([], 12)) := by
  have tail : (nat_Parse.l4 N N s (s.size : Int) 0
    (fun y49 =>
      bif decide ((y49.size : Int) > 4096) then
        some ([], 3)
      else
      nat_Parse.l12 N N y49 []
        (fun y50 =>
          (nat_cut.f N 0 y50.length y50).bind fun r51 =>
          (nat_Nat_fits.f N ((r51.2.2.drop r51.1).take r51.2.1)).bind fun r52 =>
          some (r52.1, r52.2)))
    (fun y53 y54 =>
      some (y53, y54))) = some (if AllD (intsOfBytes s) then (if 4096 < s.size then ([], 3) else out (pv (intsOfBytes s))) else ([], 12)) := by
    have h := digits_loop N s hs (fun y49 =>
      bif decide ((y49.size : Int) > 4096) then
        some ([], 3)
      else
      nat_Parse.l12 N N y49 []
        (fun y50 =>
          (nat_cut.f N 0 y50.length y50).bind fun r51 =>
          (nat_Nat_fits.f N ((r51.2.2.drop r51.1).take r51.2.1)).bind fun r52 =>
          some (r52.1, r52.2))) (fun y53 y54 => some (y53, y54)) N 0 (by omega) (by omega)
    have ez : ((0 : Nat) : Int) = 0 := rfl
    rw [ez, List.drop_zero] at h
    rw [h]
    by_cases hd : AllD (intsOfBytes s)
    · rw [if_pos hd, if_pos hd]
      by_cases hl : 4096 < s.size
      · have c : decide ((s.size : Int) > 4096) = true := decide_eq_true (by omega)
        rw [c, if_pos hl]; rfl
      · have c : decide ((s.size : Int) > 4096) = false := decide_eq_false (by omega)
        rw [c, if_neg hl]
        simp only [cond_false]
        obtain ⟨r, r1, r2, r3, r4⟩ := read_loop hN (fun y50 =>
          (nat_cut.f N 0 y50.length y50).bind fun r51 =>
          (nat_Nat_fits.f N ((r51.2.2.drop r51.1).take r51.2.1)).bind fun r52 =>
          some (r52.1, r52.2)) N s [] hd (Dig.nil _) (by simp; omega) (by omega)
        rw [r4, fits_cut hN r1 (by simp at r2; omega), r3]
        simp [nv]
    · rw [if_neg hd, if_neg hd]
  have fin : Num s → (if AllD (intsOfBytes s) then (if 4096 < s.size then (([], 3) : List Int × Int) else out (pv (intsOfBytes s))) else ([], 12)) = out (pv (intsOfBytes s)) := fun hn => by
    rw [if_pos hn.2.2]
    by_cases hl : 4096 < s.size
    · rw [if_pos hl]
      unfold out
      rw [if_neg (hn.long (by omega))]
    · rw [if_neg hl]
  unfold nat_Parse.f
  rw [toList_beq_empty]
  by_cases h0 : s.size = 0
  · rw [if_neg (fun h => h.1 h0)]
    simp [h0]
  · simp only [h0, decide_false, cond_false]
    by_cases h1 : (s.size : Int) > 1
    · have c2 : decide (0 < (s.size : Int)) = true := decide_eq_true (by omega)
      simp only [h1, decide_true, cond_true, c2]
      by_cases h2 : byteAt s 0 = 48
      · have c : (byteAt s 0 == 48) = true := by simpa using h2
        rw [c, if_neg (fun h => h.2.1 (by omega) h2)]
        rfl
      · have c : (byteAt s 0 == 48) = false := by simpa using h2
        rw [c]
        simp only [cond_false]
        refine tail.trans ?_
        by_cases hn : Num s
        · rw [if_pos hn, fin hn]
        · rw [if_neg hn, if_neg (fun h => hn ⟨h0, fun _ => h2, h⟩)]
    · simp only [h1, decide_false, cond_false]
      refine tail.trans ?_
      by_cases hn : Num s
      · rw [if_pos hn, fin hn]
      · rw [if_neg hn, if_neg (fun h => hn ⟨h0, fun h => absurd h (by omega), h⟩)]

end Go.Proofs.Ytnjlpjdncejfcaa.Pure
