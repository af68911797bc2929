-- Plain laws of the row law01: numbers' digits, bits, sums; the program's way.
import Derived.Test.YtifnooogklfifaaNa
import Derived.KernelRfl
namespace Go.Proofs.Ytifnooogklfifaa.NatL
open Go Go.Proofs.Ytifnooogklfifaa.Ev
set_option linter.unusedVariables false
set_option linter.unusedSimpArgs false

/- The digits of a number -/
theorem exists_can {b : Int} (hb : 2 ≤ b) : ∀ n : Nat, ∃ l, Can b l ∧ nv b l = n := by
  intro n
  induction n using Nat.strongRecOn with
  | _ n ih =>
    by_cases h0 : n = 0
    · subst h0; exact ⟨[], Can.nil b, rfl⟩
    · have h1 := Int.mul_ediv_add_emod (n : Int) b
      have h2 := Int.emod_nonneg (n : Int) (b := b) (by omega)
      have h3 := Int.emod_lt_of_pos (n : Int) (b := b) (by omega)
      have h4 : 0 ≤ (n : Int) / b := Int.ediv_nonneg (by omega) (by omega)
      have h5 : (n : Int) / b < n := Int.ediv_lt_self_of_pos_of_ne_one (by omega) (by omega)
      obtain ⟨l, hl, hv⟩ := ih ((n : Int) / b).toNat (by omega)
      have hv' : nv b l = (n : Int) / b := by omega
      refine ⟨(n : Int) % b :: l, ⟨Dig.cons h2 h3 hl.dig, fun _ => ?_⟩, by simp only [nv, hv']; omega⟩
      cases l with
      | nil =>
        simp only [nv] at hv'
        simp
        intro h
        have : (n : Int) % b = 0 := by omega
        rw [← hv'] at h1
        simp at h1
        omega
      | cons x l =>
        have := hl.top (by simp)
        simpa using this

open Classical in
noncomputable def enc (b v : Int) : List Int := if h : ∃ l, Can b l ∧ nv b l = v then Classical.choose h else []

theorem enc_eq {b : Int} (hb : 2 ≤ b) {l : List Int} {v : Int} (h : Can b l) (hv : nv b l = v) : l = enc b v := by
  have hx : ∃ l, Can b l ∧ nv b l = v := ⟨l, h, hv⟩
  unfold enc
  rw [dif_pos hx]
  obtain ⟨h1, h2⟩ := Classical.choose_spec hx
  exact Can.unique (by omega) h h1 (by omega)

theorem enc_spec {b : Int} (hb : 2 ≤ b) {v : Int} (hv : 0 ≤ v) : Can b (enc b v) ∧ nv b (enc b v) = v := by
  obtain ⟨l, h1, h2⟩ := exists_can hb v.toNat
  have h3 : nv b l = v := by omega
  rw [← enc_eq hb h1 h3]
  exact ⟨h1, h3⟩

theorem enc_zero {b : Int} (hb : 2 ≤ b) : enc b 0 = [] := (enc_eq hb (Can.nil b) rfl).symm

theorem enc_nil {b : Int} (hb : 2 ≤ b) {v : Int} (hv : 0 ≤ v) : enc b v = [] ↔ v = 0 := by
  obtain ⟨h1, h2⟩ := enc_spec hb hv
  rw [← h1.pos (by omega), h2]

theorem enc_inj {b : Int} (hb : 2 ≤ b) {u v : Int} (hu : 0 ≤ u) (hv : 0 ≤ v) (h : enc b u = enc b v) : u = v := by
  rw [← (enc_spec hb hu).2, h, (enc_spec hb hv).2]

/- How many bits -/
def blen (v : Int) : Int := if v ≤ 0 then 0 else (Nat.log2 v.toNat : Int) + 1

theorem pow2_cast (k : Nat) : (2 : Int) ^ k = ((2 ^ k : Nat) : Int) := by simp

theorem blen_le {v : Int} (h : 0 ≤ v) (k : Nat) : blen v ≤ k ↔ v < 2 ^ k := by
  unfold blen
  have hp : (0 : Int) < 2 ^ k := Int.pow_pos (by decide)
  split
  · have : v = 0 := by omega
    subst this
    constructor <;> intro <;> omega
  · have := Nat.log2_lt (n := v.toNat) (k := k) (by omega)
    rw [pow2_cast]
    constructor
    · intro h1
      have := this.mp (by omega)
      omega
    · intro h1
      have := this.mpr (by omega)
      omega

theorem blen_nonneg (v : Int) : 0 ≤ blen v := by unfold blen; split <;> omega

theorem blen_unique {v r : Int} (h : 0 ≤ v) (h0 : 0 ≤ r) (hr : ∀ k : Nat, r ≤ k ↔ v < 2 ^ k) : r = blen v := by
  have h1 := (blen_le h r.toNat).mpr ((hr r.toNat).mp (by omega))
  have h2 := (hr (blen v).toNat).mpr ((blen_le h (blen v).toNat).mp (by have := blen_nonneg v; omega))
  have := blen_nonneg v
  omega

theorem blen_shift {v : Int} (k : Nat) (h : 2 ^ k ≤ v) : blen v = k + blen (v / 2 ^ k) := by
  have hp : (0 : Int) < 2 ^ k := Int.pow_pos (by decide)
  have hq : 0 ≤ v / 2 ^ k := Int.ediv_nonneg (by omega) (by omega)
  refine (blen_unique (by omega) (by have := blen_nonneg (v / 2 ^ k); omega) fun j => ?_).symm
  by_cases hj : k ≤ j
  · have e : (2 : Int) ^ j = 2 ^ (j - k) * 2 ^ k := by rw [← Int.pow_add]; congr 1; omega
    have h1 := blen_le hq (j - k)
    have h2 : v / 2 ^ k < 2 ^ (j - k) ↔ v < 2 ^ (j - k) * 2 ^ k := Int.ediv_lt_iff_lt_mul hp
    rw [e, ← h2, ← h1]
    constructor <;> intro <;> omega
  · have h1 := blen_nonneg (v / 2 ^ k)
    have e : (2 : Int) ^ j ≤ 2 ^ k := by
      have := Nat.pow_le_pow_right (show 0 < 2 by decide) (show j ≤ k by omega)
      rw [pow2_cast, pow2_cast]; omega
    constructor
    · intro; omega
    · intro; omega

theorem tab_blen : ∀ i : Nat, i < 256 → byteAt str0 i = blen i := by decide +kernel

theorem str0_size : str0.size = 256 := by decide +kernel

theorem blen_bound {v : Int} (h : 0 ≤ v) (k : Nat) (hk : v < 2 ^ k) : blen v ≤ k := (blen_le h k).mpr hk

theorem len_part {x o : Int} (h0 : 0 ≤ x) (h1 : x < 256) (o0 : 0 ≤ o) (o1 : o ≤ 56) : (bif (decide (0 ≤ (wu8 x))) && (decide ((wu8 x) < (str0.size : Int))) then some (wi64 (o + (wi64 (byteAt str0 ((wu8 x).toNat))))) else none) = some (o + blen x) := by
  have t := tab_blen x.toNat (by omega)
  have e : ((x.toNat : Nat) : Int) = x := by omega
  rw [e] at t
  have hb := blen_bound h0 8 (by omega)
  have hn := blen_nonneg x
  rw [wu8_id h0 h1, str0_size]
  have c : (decide (0 ≤ x) && decide (x < ((256 : Nat) : Int))) = true := by simp; omega
  rw [c, t, wi64_id (n := blen x) (by omega) (by omega), wi64_id (by omega) (by omega)]
  rfl

theorem len32_model (N : Nat) {x : Int} (h0 : 0 ≤ x) (h1 : x < 4294967296) : bits_Len32.f N x = some (blen x) := by
  unfold bits_Len32.f
  simp only [fdiv_pow]
  have e16 : (2 : Int) ^ 16 = 65536 := by decide
  have e8 : (2 : Int) ^ 8 = 256 := by decide
  simp only [e16, e8]
  by_cases c1 : x ≥ 65536
  · simp only [c1, decide_true, cond_true]
    have b1 := blen_shift (v := x) 16 (by omega)
    rw [e16] at b1
    by_cases c2 : x / 65536 ≥ 256
    · simp only [c2, decide_true, cond_true]
      have b2 := blen_shift (v := x / 65536) 8 (by omega)
      rw [e8] at b2
      rw [len_part (by omega) (by omega) (by omega) (by omega), b1, b2]
      congr 1; omega
    · simp only [c2, decide_false, cond_false]
      rw [len_part (by omega) (by omega) (by omega) (by omega), b1]
      rfl
  · simp only [c1, decide_false, cond_false]
    by_cases c2 : x ≥ 256
    · simp only [c2, decide_true, cond_true]
      have b2 := blen_shift (v := x) 8 (by omega)
      rw [e8] at b2
      rw [len_part (by omega) (by omega) (by omega) (by omega), b2]
      rfl
    · simp only [c2, decide_false, cond_false]
      rw [len_part (by omega) (by omega) (by omega) (by omega)]
      simp

theorem B2 : (2 : Int) ≤ (4294967296 : Int) := by decide
theorem Bpow (k : Nat) : (4294967296 : Int) ^ k = 2 ^ (32 * k) := by rw [Int.pow_mul]; rfl

theorem can_blen {l : List Int} (h : Can (4294967296 : Int) l) (hne : l ≠ []) : blen (nv (4294967296 : Int) l) = 32 * ((l.length : Int) - 1) + blen (l.getD (l.length - 1) 0) := by
  have hl : 0 < l.length := List.length_pos_iff.mpr hne
  have h1 := nv_take_succ (4294967296 : Int) l (l.length - 1) (by omega)
  have e : l.length - 1 + 1 = l.length := by omega
  rw [e, List.take_length] at h1
  have h2 := nv_bound (show 0 < (4294967296 : Int) by decide) (h.dig.take (l.length - 1))
  have e3 : (l.take (l.length - 1)).length = l.length - 1 := by rw [List.length_take]; omega
  rw [e3] at h2
  have h4 := h.lower (by decide) hne
  have hp : (0 : Int) < (4294967296 : Int) ^ (l.length - 1) := Int.pow_pos (by decide)
  have hq : nv (4294967296 : Int) l / (4294967296 : Int) ^ (l.length - 1) = l.getD (l.length - 1) 0 := by
    rw [h1, Int.add_mul_ediv_left _ _ (by omega), Int.ediv_eq_zero_of_lt h2.1 h2.2]; simp
  rw [blen_shift (32 * (l.length - 1)) (by rw [← Bpow]; exact h4), ← Bpow, hq]
  omega

theorem bits_model (N : Nat) {l : List Int} (h : Can (4294967296 : Int) l) (hlen : l.length ≤ 100000000) : nat_Nat_Bits.f N l = some (blen (nv (4294967296 : Int) l)) := by
  unfold nat_Nat_Bits.f
  by_cases hne : l = []
  · subst hne; rfl
  · have hl : 0 < l.length := List.length_pos_iff.mpr hne
    have c0 : ((l.length : Int) == 0) = false := by simp; omega
    have e1 : wi64 ((l.length : Int) - 1) = (l.length : Int) - 1 := wi64_id (by omega) (by omega)
    have e2 : ((l.length : Int) - 1).toNat = l.length - 1 := by omega
    have hd := h.dig.get (by decide) (l.length - 1)
    have hb := blen_bound hd.1 32 hd.2
    have hn := blen_nonneg (l.getD (l.length - 1) 0)
    rw [c0, e1, e2, len32_model N hd.1 hd.2]
    have c1 : (decide (0 ≤ (l.length : Int) - 1) && decide ((l.length : Int) - 1 < (l.length : Int))) = true := by simp; omega
    rw [c1, can_blen h hne]
    simp only [cond_true, cond_false, Option.bind_some]
    rw [wi64_id (n := 32 * ((l.length : Int) - 1)) (by omega) (by omega), wi64_id (by omega) (by omega)]

/-- The bound of the document's numbers. -/
def K : Int := 2 ^ 4096

theorem fits_model (N : Nat) {l : List Int} (h : Can (4294967296 : Int) l) (hlen : l.length ≤ 100000000) : nat_Nat_fits.f N l = some (if nv (4294967296 : Int) l < K then (l, 0) else ([], 3)) := by
  unfold nat_Nat_fits.f
  rw [bits_model N h hlen]
  simp only [Option.bind_some]
  have := blen_le (nv_bound (show 0 < (4294967296 : Int) by decide) h.dig).1 4096
  by_cases hk : nv (4294967296 : Int) l < K
  · have h1 := this.mpr hk
    have c : decide (blen (nv (4294967296 : Int) l) > 4096) = false := by simp; omega
    rw [c, if_pos hk]; rfl
  · have h1 : ¬ blen (nv (4294967296 : Int) l) ≤ (4096 : Nat) := fun h => hk (this.mp h)
    have c : decide (blen (nv (4294967296 : Int) l) > 4096) = true := by simp; omega
    rw [c, if_neg hk]; rfl

theorem cut_loop_model (N : Nat) {R : Type} (l : List Int) (m : Nat) (hm : m ≤ l.length) (hm2 : m ≤ 1000000000) (k : Nat → Nat → Int → List Int → Option R) : ∀ (n i : Nat), i ≤ m → i < n → nat_cut.l2 N n 0 m (i : Int) l k = k 0 m (cutN l i : Nat) l := by
  intro n
  induction n with
  | zero => intro i _ h; omega
  | succ n ih =>
    intro i hi hn
    rw [nat_cut.l2]
    cases i with
    | zero => rfl
    | succ i =>
      have e1 : wi64 (((i + 1 : Nat) : Int) - 1) = (i : Int) := by rw [wi64_id (by omega) (by omega)]; omega
      have c0 : decide (((i + 1 : Nat) : Int) > 0) = true := decide_eq_true (by omega)
      have c1 : (decide (0 ≤ (i : Int)) && decide ((i : Int) < (m : Int))) = true := by simp; omega
      rw [e1, c1, c0]
      simp only [cond_true]
      have e2 : 0 + (i : Int).toNat = i := by omega
      rw [e2]
      unfold cutN
      by_cases hz : l.getD i 0 = 0
      · rw [if_pos hz]
        have : (l.getD i 0 == 0) = true := by simpa using hz
        rw [this]
        exact ih i (by omega) (by omega)
      · rw [if_neg hz]
        have : (l.getD i 0 == 0) = false := by simpa using hz
        rw [this]; rfl

theorem cut_model {N : Nat} (hN : 1000000001 < N) (l : List Int) (m : Nat) (hm : m ≤ l.length) (hm2 : m ≤ 1000000000) : nat_cut.f N 0 m l = some (0, cutN l m, l) := by
  unfold nat_cut.f
  rw [cut_loop_model N l m hm hm2 _ N m (Nat.le_refl _) (by omega)]
  have := cutN_le l m
  have c : ((decide (0 ≤ ((cutN l m : Nat) : Int)) && decide (((cutN l m : Nat) : Int) ≤ ((cutN l m : Nat) : Int))) && decide (((cutN l m : Nat) : Int) ≤ (m : Int))) = true := by simp; omega
  rw [c]
  simp

/-- cut, of all of a row. -/
theorem cut_all {N : Nat} (hN : 1000000001 < N) (l : List Int) (hl : l.length ≤ 1000000000) : nat_cut.f N 0 l.length l = some (0, cutN l l.length, l) ∧ (l.drop 0).take (cutN l l.length) = cutL l :=
  ⟨cut_model hN l _ (Nat.le_refl _) hl, by simp [cutL]⟩

theorem cutL_enc {l : List Int} (h : Dig (4294967296 : Int) l) : cutL l = enc (4294967296 : Int) (nv (4294967296 : Int) l) := enc_eq B2 (cutL_can h) (cutL_nv (4294967296 : Int) l)

theorem enc_len {v : Int} (h : 0 ≤ v) {k : Nat} (hk : v < (4294967296 : Int) ^ k) : (enc (4294967296 : Int) v).length ≤ k := by
  obtain ⟨h1, h2⟩ := enc_spec B2 h
  by_cases hne : enc (4294967296 : Int) v = []
  · rw [hne]; simp
  · have h3 := h1.lower (by decide) hne
    rw [h2] at h3
    rcases Nat.lt_or_ge k (enc (4294967296 : Int) v).length with h | h
    · exfalso
      have : (4294967296 : Int) ^ k ≤ (4294967296 : Int) ^ ((enc (4294967296 : Int) v).length - 1) := by
        rw [Bpow, Bpow, pow2_cast, pow2_cast]
        have := Nat.pow_le_pow_right (show 0 < 2 by decide) (show 32 * k ≤ 32 * ((enc (4294967296 : Int) v).length - 1) by omega)
        omega
      omega
    · exact h

theorem K_eq : K = (4294967296 : Int) ^ 128 := by unfold K; rw [Bpow]

theorem enc_len128 {v : Int} (h : 0 ≤ v) (hk : v < K) : (enc (4294967296 : Int) v).length ≤ 128 := enc_len h (by rw [← K_eq]; exact hk)

theorem of_model {N : Nat} (hN : 1000000001 < N) {n : Int} (h0 : 0 ≤ n) (h1 : n < 18446744073709551616) : nat_Of.f N n = some (enc (4294967296 : Int) n) := by
  unfold nat_Of.f
  have e32 : (2 : Int) ^ 32 = 4294967296 := by decide
  rw [fdiv_pow, e32, wu32_mod, wu32_mod]
  have hd : Dig (4294967296 : Int) [n % 4294967296, n / 4294967296 % 4294967296] := Dig.cons (by omega) (by omega) (Dig.cons (by omega) (by omega) (Dig.nil (4294967296 : Int)))
  obtain ⟨c1, c2⟩ := cut_all hN [n % 4294967296, n / 4294967296 % 4294967296] (by simp)
  have hv : nv (4294967296 : Int) [n % 4294967296, n / 4294967296 % 4294967296] = n := by simp only [nv]; omega
  have := cutL_enc hd
  rw [hv] at this
  rw [← this, ← c2]
  have hl : [n % 4294967296, n / 4294967296 % 4294967296].length = 2 := rfl
  rw [hl] at c1 ⊢
  rw [c1]
  rfl

/- Comparing -/
theorem cmp_loop (N : Nat) {R : Type} (a c : List Int) (hl : a.length = c.length) (ha : Dig (4294967296 : Int) a) (hc : Dig (4294967296 : Int) c) (hs : a.length ≤ 1000000000) (K0 : Unit → Option R) (Kr : Int → Option R) : ∀ (n i : Nat), i ≤ a.length → i < n →
    nat_Cmp.l6 N n ((i : Int) - 1) a c K0 Kr = if nv (4294967296 : Int) (a.take i) = nv (4294967296 : Int) (c.take i) then K0 () else Kr (if nv (4294967296 : Int) (a.take i) < nv (4294967296 : Int) (c.take i) then -1 else 1) := by
  intro n
  induction n with
  | zero => intro i _ h; omega
  | succ n ih =>
    intro i hi hn
    rw [nat_Cmp.l6]
    cases i with
    | zero => rfl
    | succ i =>
      have e0 : ((i + 1 : Nat) : Int) - 1 = (i : Int) := by omega
      have e1 : wi64 ((i : Int) - 1) = (i : Int) - 1 := wi64_id (by omega) (by omega)
      rw [e0, e1]
      have c0 : decide ((i : Int) ≥ 0) = true := decide_eq_true (by omega)
      have c1 : (decide (0 ≤ (i : Int)) && decide ((i : Int) < (a.length : Int))) = true := by simp; omega
      have c2 : (decide (0 ≤ (i : Int)) && decide ((i : Int) < (c.length : Int))) = true := by simp; omega
      have e2 : (i : Int).toNat = i := by omega
      rw [c1, c2, c0, e2]
      simp only [cond_true]
      have ta := nv_take_succ (4294967296 : Int) a i (by omega)
      have tc := nv_take_succ (4294967296 : Int) c i (by omega)
      have ba := nv_bound (show 0 < (4294967296 : Int) by decide) (ha.take i)
      have bc := nv_bound (show 0 < (4294967296 : Int) by decide) (hc.take i)
      have la : (a.take i).length = i := by rw [List.length_take]; omega
      have lc : (c.take i).length = i := by rw [List.length_take]; omega
      rw [la] at ba
      rw [lc] at bc
      have hp : (0 : Int) < (4294967296 : Int) ^ i := Int.pow_pos (by decide)
      by_cases h1 : a.getD i 0 < c.getD i 0
      · simp only [h1, decide_true, cond_true]
        have := Int.mul_le_mul_of_nonneg_left (show a.getD i 0 + 1 ≤ c.getD i 0 by omega) (Int.le_of_lt hp)
        have e : (4294967296 : Int) ^ i * (a.getD i 0 + 1) = (4294967296 : Int) ^ i * a.getD i 0 + (4294967296 : Int) ^ i := by grind
        rw [if_neg (by omega), if_pos (by omega)]
      · simp only [h1, decide_false, cond_false]
        by_cases h2 : a.getD i 0 > c.getD i 0
        · simp only [h2, decide_true, cond_true]
          have := Int.mul_le_mul_of_nonneg_left (show c.getD i 0 + 1 ≤ a.getD i 0 by omega) (Int.le_of_lt hp)
          have e : (4294967296 : Int) ^ i * (c.getD i 0 + 1) = (4294967296 : Int) ^ i * c.getD i 0 + (4294967296 : Int) ^ i := by grind
          rw [if_neg (by omega), if_neg (by omega)]
        · simp only [h2, decide_false, cond_false]
          have heq : a.getD i 0 = c.getD i 0 := by omega
          rw [ih i (by omega) (by omega), ta, tc, heq]
          generalize (4294967296 : Int) ^ i * c.getD i 0 = p
          generalize nv (4294967296 : Int) (a.take i) = x
          generalize nv (4294967296 : Int) (c.take i) = y
          by_cases h3 : x = y
          · rw [if_pos h3, if_pos (by rw [h3])]
          · have n1 : ¬ (x + p = y + p) := by omega
            rw [if_neg h3, if_neg n1]
            by_cases h4 : x < y
            · have n2 : x + p < y + p := by omega
              rw [if_pos h4, if_pos n2]
            · have n2 : ¬ x + p < y + p := by omega
              rw [if_neg h4, if_neg n2]

def cmp (u v : Int) : Int := if u = v then 0 else if u < v then -1 else 1

theorem can_cmp_len {a c : List Int} (ha : Can (4294967296 : Int) a) (hc : Can (4294967296 : Int) c) (h : a.length < c.length) : nv (4294967296 : Int) a < nv (4294967296 : Int) c := by
  have hne : c ≠ [] := by intro e; subst e; simp at h
  have h1 := hc.lower (by decide) hne
  have h2 := (nv_bound (show 0 < (4294967296 : Int) by decide) ha.dig).2
  have : (4294967296 : Int) ^ a.length ≤ (4294967296 : Int) ^ (c.length - 1) := by
    rw [Bpow, Bpow, pow2_cast, pow2_cast]
    have := Nat.pow_le_pow_right (show 0 < 2 by decide) (show 32 * a.length ≤ 32 * (c.length - 1) by omega)
    omega
  omega

theorem cmp_model {N : Nat} (hN : 1000000001 < N) {a c : List Int} (ha : Can (4294967296 : Int) a) (hc : Can (4294967296 : Int) c) (hs : a.length ≤ 1000000000) : nat_Cmp.f N a c = some (cmp (nv (4294967296 : Int) a) (nv (4294967296 : Int) c)) := by
  unfold nat_Cmp.f cmp
  by_cases hl : a.length = c.length
  · have c0 : ((a.length : Int) != (c.length : Int)) = false := by simp; omega
    have e1 : wi64 ((a.length : Int) - 1) = (a.length : Int) - 1 := wi64_id (by omega) (by omega)
    rw [c0, e1]
    simp only [cond_false]
    rw [cmp_loop N a c hl ha.dig hc.dig hs _ _ N a.length (Nat.le_refl _) (by omega), List.take_length, hl, List.take_length]
    split
    · rfl
    · rfl
  · have c0 : ((a.length : Int) != (c.length : Int)) = true := by simp; omega
    rw [c0]
    simp only [cond_true]
    rcases Nat.lt_or_gt_of_ne hl with h | h
    · have := can_cmp_len ha hc h
      have c1 : decide ((a.length : Int) < (c.length : Int)) = true := decide_eq_true (by omega)
      rw [c1, if_neg (by omega), if_pos this]; rfl
    · have := can_cmp_len hc ha h
      have c1 : decide ((a.length : Int) < (c.length : Int)) = false := decide_eq_false (by omega)
      rw [c1, if_neg (by omega), if_neg (by omega)]; rfl

theorem cmp_enc {N : Nat} (hN : 1000000001 < N) {u v : Int} (hu : 0 ≤ u) (hk : u < K) (hv : 0 ≤ v) : nat_Cmp.f N (enc (4294967296 : Int) u) (enc (4294967296 : Int) v) = some (cmp u v) := by
  obtain ⟨h1, h2⟩ := enc_spec B2 hu
  obtain ⟨h3, h4⟩ := enc_spec B2 hv
  rw [cmp_model hN h1 h3 (by have := enc_len128 hu hk; omega), h2, h4]


end Go.Proofs.Ytifnooogklfifaa.NatL
