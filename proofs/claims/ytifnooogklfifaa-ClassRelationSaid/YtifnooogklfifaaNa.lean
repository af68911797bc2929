-- Plain laws of the row law01: lists of digits and the numbers they are.
import Derived.Test.YtifnooogklfifaaT4
import Derived.KernelRfl
namespace Go.Proofs.Ytifnooogklfifaa.NatL
open Go Go.Proofs.Ytifnooogklfifaa.Ev
set_option linter.unusedVariables false
set_option linter.unusedSimpArgs false

theorem wi64_id {n : Int} (h1 : -9223372036854775808 ≤ n) (h2 : n < 9223372036854775808) : wi64 n = n := by
  simp only [wi64, IntKind.wrap]
  simp [IntKind.bits, IntKind.signed]
  omega
theorem wu64_id {n : Int} (h1 : 0 ≤ n) (h2 : n < 18446744073709551616) : wu64 n = n := by
  simp only [wu64, IntKind.wrap]
  simp [IntKind.bits, IntKind.signed]
  omega
theorem wu32_id {n : Int} (h1 : 0 ≤ n) (h2 : n < 4294967296) : wu32 n = n := by
  simp only [wu32, IntKind.wrap]
  simp [IntKind.bits, IntKind.signed]
  omega
theorem wu32_mod (n : Int) : wu32 n = n % 4294967296 := by
  simp only [wu32, IntKind.wrap]
  simp [IntKind.bits, IntKind.signed]
theorem wu64_mod (n : Int) : wu64 n = n % 18446744073709551616 := by
  simp only [wu64, IntKind.wrap]
  simp [IntKind.bits, IntKind.signed]
theorem wu8_id {n : Int} (h1 : 0 ≤ n) (h2 : n < 256) : wu8 n = n := by
  simp only [wu8, IntKind.wrap]
  simp [IntKind.bits, IntKind.signed]
  omega
theorem wu8_mod (n : Int) : wu8 n = n % 256 := by
  simp only [wu8, IntKind.wrap]
  simp [IntKind.bits, IntKind.signed]
theorem fdiv_pow (y : Int) (k : Nat) : Int.fdiv y (2 ^ k) = y / 2 ^ k := Int.fdiv_eq_ediv_of_nonneg _ (Int.le_of_lt (Int.pow_pos (by decide)))
theorem tdiv_nn {x y : Int} (h : 0 ≤ x) : Int.tdiv x y = x / y := Int.tdiv_eq_ediv_of_nonneg h
theorem tmod_nn {x y : Int} (h : 0 ≤ x) : Int.tmod x y = x % y := Int.tmod_eq_emod_of_nonneg h

/-- The number of a list of digits to the base b, the lowest first. -/
def nv (b : Int) : List Int → Int
  | [] => 0
  | x :: r => x + b * nv b r

def Dig (b : Int) (l : List Int) : Prop := ∀ x ∈ l, 0 ≤ x ∧ x < b

theorem Dig.nil (b : Int) : Dig b [] := fun _ h => by cases h
theorem Dig.cons {b x : Int} {l : List Int} (h0 : 0 ≤ x) (h1 : x < b) (h : Dig b l) : Dig b (x :: l) := fun y hy => by
  rcases List.mem_cons.mp hy with rfl | hy
  · exact ⟨h0, h1⟩
  · exact h y hy
theorem Dig.tail {b x : Int} {l : List Int} (h : Dig b (x :: l)) : Dig b l := fun y hy => h y (List.mem_cons_of_mem _ hy)
theorem Dig.head {b x : Int} {l : List Int} (h : Dig b (x :: l)) : 0 ≤ x ∧ x < b := h x List.mem_cons_self
theorem Dig.append {b : Int} {l m : List Int} (h : Dig b l) (k : Dig b m) : Dig b (l ++ m) := fun y hy => by
  rcases List.mem_append.mp hy with hy | hy
  · exact h y hy
  · exact k y hy
theorem Dig.take {b : Int} {l : List Int} (h : Dig b l) (n : Nat) : Dig b (l.take n) := fun y hy => h y (List.mem_of_mem_take hy)
theorem Dig.drop {b : Int} {l : List Int} (h : Dig b l) (n : Nat) : Dig b (l.drop n) := fun y hy => h y (List.mem_of_mem_drop hy)
theorem Dig.set {b v : Int} {l : List Int} (h : Dig b l) (i : Nat) (h0 : 0 ≤ v) (h1 : v < b) : Dig b (l.set i v) := fun y hy => by
  rcases List.mem_or_eq_of_mem_set hy with hy | rfl
  · exact h y hy
  · exact ⟨h0, h1⟩
theorem Dig.get {b : Int} {l : List Int} (h : Dig b l) (hb : 0 < b) (i : Nat) : 0 ≤ l.getD i 0 ∧ l.getD i 0 < b := by
  rw [List.getD_eq_getElem?_getD]
  cases hi : l[i]? with
  | none => exact ⟨Int.le_refl _, hb⟩
  | some x => exact h x (List.mem_of_getElem? hi)

theorem nv_append (b : Int) : ∀ l m : List Int, nv b (l ++ m) = nv b l + b ^ l.length * nv b m
  | [], m => by simp [nv]
  | x :: l, m => by
    simp only [List.cons_append, nv, List.length_cons, nv_append b l m, Int.pow_succ]
    grind

theorem nv_bound {b : Int} (hb : 0 < b) : ∀ {l : List Int}, Dig b l → 0 ≤ nv b l ∧ nv b l < b ^ l.length
  | [], _ => by simp [nv]
  | x :: l, h => by
    obtain ⟨h1, h2⟩ := nv_bound hb h.tail
    obtain ⟨h3, h4⟩ := h.head
    simp only [nv, List.length_cons, Int.pow_succ]
    have p1 := Int.mul_nonneg (Int.le_of_lt hb) h1
    have p2 := Int.mul_le_mul_of_nonneg_left (show nv b l + 1 ≤ b ^ l.length by omega) (Int.le_of_lt hb)
    have e1 : b * (nv b l + 1) = b * nv b l + b := by grind
    have e2 : b ^ l.length * b = b * b ^ l.length := Int.mul_comm _ _
    omega

theorem nv_set (b v : Int) : ∀ (l : List Int) (i : Nat), i < l.length → nv b (l.set i v) = nv b l + b ^ i * (v - l.getD i 0)
  | [], i, h => by simp at h
  | x :: l, 0, _ => by simp [nv]; omega
  | x :: l, i + 1, h => by
    have := nv_set b v l i (by simpa using h)
    simp only [List.set_cons_succ, nv, this, Int.pow_succ, List.getD_cons_succ]
    grind

theorem nv_take_succ (b : Int) : ∀ (l : List Int) (i : Nat), i < l.length → nv b (l.take (i + 1)) = nv b (l.take i) + b ^ i * l.getD i 0
  | [], i, h => by simp at h
  | x :: l, 0, _ => by simp [nv]
  | x :: l, i + 1, h => by
    have := nv_take_succ b l i (by simpa using h)
    simp only [List.take_succ_cons, nv, this, Int.pow_succ, List.getD_cons_succ]
    grind

theorem nv_drop (b : Int) : ∀ (l : List Int) (i : Nat), i < l.length → nv b (l.drop i) = l.getD i 0 + b * nv b (l.drop (i + 1))
  | [], i, h => by simp at h
  | x :: l, 0, _ => by simp [nv]
  | x :: l, i + 1, h => by
    have := nv_drop b l i (by simpa using h)
    simpa using this

theorem nv_split (b : Int) (l : List Int) (i : Nat) (h : i ≤ l.length) : nv b l = nv b (l.take i) + b ^ i * nv b (l.drop i) := by
  have := nv_append b (l.take i) (l.drop i)
  rw [List.take_append_drop, List.length_take, Nat.min_eq_left h] at this
  exact this

theorem nv_replicate (b : Int) : ∀ n, nv b (List.replicate n 0) = 0
  | 0 => rfl
  | n + 1 => by simp [List.replicate_succ, nv, nv_replicate b n]

theorem Dig.replicate {b : Int} (hb : 0 < b) (n : Nat) : Dig b (List.replicate n 0) := fun x hx => by
  have := List.eq_of_mem_replicate hx
  subst this
  exact ⟨Int.le_refl _, hb⟩

/-- No nought at the end. -/
structure Can (b : Int) (l : List Int) : Prop where
  dig : Dig b l
  top : l ≠ [] → l.getD (l.length - 1) 0 ≠ 0

theorem Can.nil (b : Int) : Can b [] := ⟨Dig.nil b, fun h => absurd rfl h⟩

theorem Can.lower {b : Int} (hb : 0 < b) {l : List Int} (h : Can b l) (hne : l ≠ []) : b ^ (l.length - 1) ≤ nv b l := by
  have hl : 0 < l.length := List.length_pos_iff.mpr hne
  have h1 := nv_take_succ b l (l.length - 1) (by omega)
  have e : l.length - 1 + 1 = l.length := by omega
  rw [e, List.take_length] at h1
  have h2 := (nv_bound hb (h.dig.take (l.length - 1))).1
  have h3 := h.dig.get hb (l.length - 1)
  have h4 := h.top hne
  have h5 := Int.mul_le_mul_of_nonneg_left (show 1 ≤ l.getD (l.length - 1) 0 by omega) (show 0 ≤ b ^ (l.length - 1) from Int.le_of_lt (Int.pow_pos hb))
  omega

theorem Can.pos {b : Int} (hb : 0 < b) {l : List Int} (h : Can b l) : nv b l = 0 ↔ l = [] := by
  cases l with
  | nil => simp [nv]
  | cons x l =>
    have h1 := h.lower hb (by simp)
    have h2 : 0 < b ^ ((x :: l).length - 1) := Int.pow_pos hb
    refine ⟨fun _ => ?_, fun h => by cases h⟩
    omega

theorem Can.tail {b x : Int} {l : List Int} (h : Can b (x :: l)) : Can b l := by
  refine ⟨h.dig.tail, fun hne => ?_⟩
  have hl : 0 < l.length := List.length_pos_iff.mpr hne
  have := h.top (by simp)
  have e : (x :: l).length - 1 = (l.length - 1) + 1 := by simp; omega
  rw [e, List.getD_cons_succ] at this
  exact this

theorem dig_unique {b x y n m : Int} (hb : 0 < b) (hx0 : 0 ≤ x) (hx1 : x < b) (hy0 : 0 ≤ y) (hy1 : y < b) (h : x + b * n = y + b * m) : x = y ∧ n = m := by
  rcases Int.lt_trichotomy n m with hq | hq | hq
  · exfalso
    have := Int.mul_le_mul_of_nonneg_left (show n + 1 ≤ m by omega) (Int.le_of_lt hb)
    have e : b * (n + 1) = b * n + b := by grind
    omega
  · subst hq; exact ⟨by omega, rfl⟩
  · exfalso
    have := Int.mul_le_mul_of_nonneg_left (show m + 1 ≤ n by omega) (Int.le_of_lt hb)
    have e : b * (m + 1) = b * m + b := by grind
    omega

theorem Can.unique {b : Int} (hb : 0 < b) : ∀ {l m : List Int}, Can b l → Can b m → nv b l = nv b m → l = m
  | [], m, _, hm, h => ((hm.pos hb).mp h.symm).symm
  | x :: l, [], hl, _, h => by have := (hl.pos hb).mp h; exact this
  | x :: l, y :: m, hl, hm, h => by
    simp only [nv] at h
    obtain ⟨h1, h2⟩ := dig_unique hb hl.dig.head.1 hl.dig.head.2 hm.dig.head.1 hm.dig.head.2 h
    rw [h1, Can.unique hb hl.tail hm.tail h2]

/-- How many digits are left without noughts at the end. -/
def cutN (l : List Int) : Nat → Nat
  | 0 => 0
  | n + 1 => if l.getD n 0 = 0 then cutN l n else n + 1

theorem cutN_le (l : List Int) : ∀ n, cutN l n ≤ n
  | 0 => Nat.le_refl _
  | n + 1 => by
    unfold cutN
    split
    · exact Nat.le_succ_of_le (cutN_le l n)
    · exact Nat.le_refl _

theorem cutN_nv (b : Int) (l : List Int) : ∀ n, n ≤ l.length → nv b (l.take (cutN l n)) = nv b (l.take n)
  | 0, _ => rfl
  | n + 1, h => by
    unfold cutN
    split
    · rename_i h0
      rw [cutN_nv b l n (by omega), nv_take_succ b l n (by omega), h0]; simp
    · rfl

theorem cutN_top (l : List Int) : ∀ n, 0 < cutN l n → l.getD (cutN l n - 1) 0 ≠ 0
  | 0, h => by simp [cutN] at h
  | n + 1, h => by
    unfold cutN at h ⊢
    split
    · rename_i h0
      rw [if_pos h0] at h
      exact cutN_top l n h
    · rename_i h0; simpa using h0

def cutL (l : List Int) : List Int := l.take (cutN l l.length)

theorem cutL_nv (b : Int) (l : List Int) : nv b (cutL l) = nv b l := by
  unfold cutL; rw [cutN_nv b l _ (Nat.le_refl _), List.take_length]

theorem getD_take {l : List Int} {n i : Nat} (h : i < n) : (l.take n).getD i 0 = l.getD i 0 := by
  simp [List.getD_eq_getElem?_getD, List.getElem?_take, h]

theorem cutL_can {b : Int} {l : List Int} (h : Dig b l) : Can b (cutL l) := by
  refine ⟨h.take _, fun hne => ?_⟩
  have hle := cutN_le l l.length
  have hlen : (cutL l).length = cutN l l.length := by unfold cutL; rw [List.length_take]; omega
  have hpos : 0 < (cutL l).length := List.length_pos_iff.mpr hne
  rw [hlen] at hpos ⊢
  have := cutN_top l l.length hpos
  unfold cutL
  rw [getD_take (by omega)]
  exact this

theorem cutL_len (l : List Int) : (cutL l).length ≤ l.length := by unfold cutL; rw [List.length_take]; omega


end Go.Proofs.Ytifnooogklfifaa.NatL
