-- Plain laws of the row law01: sums, differences, products; the program's way.
import Derived.Test.YtifnooogklfifaaNb
import Derived.KernelRfl
namespace Go.Proofs.Ytifnooogklfifaa.NatL
open Go Go.Proofs.Ytifnooogklfifaa.Ev
set_option linter.unusedVariables false
set_option linter.unusedSimpArgs false

theorem step_digit (s : Int) : s % (4294967296 : Int) + (4294967296 : Int) * (s / (4294967296 : Int)) = s := by
  have := Int.mul_ediv_add_emod s (4294967296 : Int); omega

/-- Sums: one pass. -/
theorem add_loop (N : Nat) {R : Type} (b : List Int) (hb : Dig (4294967296 : Int) b) (K0 : List Int → Option R) : ∀ (n i : Nat) (c : Int) (out : List Int), Dig (4294967296 : Int) out → b.length < out.length → out.length ≤ 1000000000 → i ≤ out.length → out.length - i < n → 0 ≤ c → c ≤ 1 →
    nv (4294967296 : Int) out + (4294967296 : Int) ^ i * c + (4294967296 : Int) ^ i * nv (4294967296 : Int) (b.drop i) < (4294967296 : Int) ^ out.length →
    ∃ r, Dig (4294967296 : Int) r ∧ r.length = out.length ∧ nv (4294967296 : Int) r = nv (4294967296 : Int) out + (4294967296 : Int) ^ i * c + (4294967296 : Int) ^ i * nv (4294967296 : Int) (b.drop i) ∧ nat_Add.l7 N n c (out.length : Int) (i : Int) b out K0 = K0 r := by
  intro n
  induction n with
  | zero => intro i c out _ _ _ _ h; omega
  | succ n ih =>
    intro i c out ho hlb hlo hi hn c0 c1 hlt
    rw [nat_Add.l7]
    by_cases hil : i < out.length
    · have e0 : decide ((i : Int) < (out.length : Int)) = true := decide_eq_true (by omega)
      have e1 : (decide (0 ≤ (i : Int)) && decide ((i : Int) < (out.length : Int))) = true := by simp; omega
      have e2 : (i : Int).toNat = i := by omega
      have e3 : wi64 ((i : Int) + 1) = ((i + 1 : Nat) : Int) := by rw [wi64_id (by omega) (by omega)]; omega
      have hd := ho.get (by decide) i
      have p32 : (2 : Int) ^ 32 = (4294967296 : Int) := by decide
      have hp : (0 : Int) < (4294967296 : Int) ^ i := Int.pow_pos (by decide)
      -- one digit
      have go : ∀ s y : Int, s = c + out.getD i 0 + y → 0 ≤ y → y < (4294967296 : Int) → nv (4294967296 : Int) (b.drop i) = y + (4294967296 : Int) * nv (4294967296 : Int) (b.drop (i + 1)) → (out.set i (s % (4294967296 : Int))).length = out.length ∧ Dig (4294967296 : Int) (out.set i (s % (4294967296 : Int))) ∧ 0 ≤ s / (4294967296 : Int) ∧ s / (4294967296 : Int) ≤ 1 ∧
          nv (4294967296 : Int) (out.set i (s % (4294967296 : Int))) + (4294967296 : Int) ^ (i + 1) * (s / (4294967296 : Int)) + (4294967296 : Int) ^ (i + 1) * nv (4294967296 : Int) (b.drop (i + 1)) = nv (4294967296 : Int) out + (4294967296 : Int) ^ i * c + (4294967296 : Int) ^ i * nv (4294967296 : Int) (b.drop i) := by
        intro s y hs y0 y1 hdr
        refine ⟨by simp, ho.set i (by omega) (by omega), by omega, by omega, ?_⟩
        rw [nv_set (4294967296 : Int) _ out i hil, hdr, Int.pow_succ]
        have := step_digit s
        generalize s % (4294967296 : Int) = m at *
        generalize s / (4294967296 : Int) = q at *
        have e : m = s - (4294967296 : Int) * q := by omega
        subst e
        subst hs
        grind
      rw [e1, e0, e2, e3]
      simp only [cond_true]
      by_cases hib : i < b.length
      · have f0 : decide ((i : Int) < (b.length : Int)) = true := decide_eq_true (by omega)
        have f1 : (decide (0 ≤ (i : Int)) && decide ((i : Int) < (b.length : Int))) = true := by simp; omega
        have hbd := hb.get (by decide) i
        rw [f1, f0]
        simp only [cond_true]
        obtain ⟨g1, g2, g3, g4, g5⟩ := go (c + out.getD i 0 + b.getD i 0) (b.getD i 0) rfl hbd.1 hbd.2 (nv_drop (4294967296 : Int) b i hib)
        rw [wu64_id (n := out.getD i 0) (by omega) (by omega), wu64_id (n := c + out.getD i 0) (by omega) (by omega), wu64_id (n := b.getD i 0) (by omega) (by omega), wu64_id (n := c + out.getD i 0 + b.getD i 0) (by omega) (by omega), fdiv_pow, p32, wu32_mod]
        obtain ⟨r, r1, r2, r3, r4⟩ := ih (i + 1) _ _ g2 (by omega) (by omega) (by omega) (by omega) g3 g4 (by rw [g5, g1]; exact hlt)
        refine ⟨r, r1, by omega, by rw [r3, g5], ?_⟩
        rw [g1] at r4
        exact r4
      · have f0 : decide ((i : Int) < (b.length : Int)) = false := decide_eq_false (by omega)
        rw [f0]
        simp only [cond_false]
        have hz : b.drop i = [] := List.drop_eq_nil_iff.mpr (by omega)
        have hz2 : b.drop (i + 1) = [] := List.drop_eq_nil_iff.mpr (by omega)
        obtain ⟨g1, g2, g3, g4, g5⟩ := go (c + out.getD i 0) 0 (by omega) (by omega) (by decide) (by rw [hz, hz2]; simp [nv])
        rw [wu64_id (n := out.getD i 0) (by omega) (by omega), wu64_id (n := c + out.getD i 0) (by omega) (by omega), fdiv_pow, p32, wu32_mod]
        obtain ⟨r, r1, r2, r3, r4⟩ := ih (i + 1) _ _ g2 (by omega) (by omega) (by omega) (by omega) g3 g4 (by rw [g5, g1]; exact hlt)
        refine ⟨r, r1, by omega, by rw [r3, g5], ?_⟩
        rw [g1] at r4
        exact r4
    · have e0 : decide ((i : Int) < (out.length : Int)) = false := decide_eq_false (by omega)
      have hie : i = out.length := by omega
      have hz : b.drop i = [] := List.drop_eq_nil_iff.mpr (by omega)
      rw [e0]
      refine ⟨out, ho, rfl, ?_, rfl⟩
      rw [hz, hie] at hlt ⊢
      have := (nv_bound (show 0 < (4294967296 : Int) by decide) ho).1
      have hc : c = 0 := by
        rcases Int.lt_or_le 0 c with h | h
        · have : c = 1 := by omega
          subst this
          simp only [nv] at hlt
          omega
        · omega
      subst hc
      simp [nv]

theorem splice_pad (a : List Int) (m : Nat) (h : a.length ≤ m) : splice (List.replicate m (0 : Int)) 0 (a.take (min a.length (List.replicate m (0 : Int)).length)) = a ++ List.replicate (m - a.length) 0 := by
  unfold splice
  have e : min a.length (List.replicate m (0 : Int)).length = a.length := by simp; omega
  rw [e, List.take_length]
  simp

theorem pad_nv (b : Int) (a : List Int) (k : Nat) : nv b (a ++ List.replicate k 0) = nv b a := by rw [nv_append, nv_replicate]; simp

theorem pow_mono {i j : Nat} (h : i ≤ j) : (4294967296 : Int) ^ i ≤ (4294967296 : Int) ^ j := by
  rw [Bpow, Bpow, pow2_cast, pow2_cast]
  have := Nat.pow_le_pow_right (show 0 < 2 by decide) (show 32 * i ≤ 32 * j by omega)
  omega

/-- What is handed out: the number, or the refusal of one that is too long. -/
noncomputable def out (v : Int) : List Int × Int := if v < K then (enc (4294967296 : Int) v, 0) else ([], 3)

theorem fits_cut {N : Nat} (hN : 1000000001 < N) {l : List Int} (h : Dig (4294967296 : Int) l) (hl : l.length ≤ 100000000) : ((nat_cut.f N 0 l.length l).bind fun r => (nat_Nat_fits.f N ((r.2.2.drop r.1).take r.2.1)).bind fun r2 => some (r2.1, r2.2)) = some (out (nv (4294967296 : Int) l)) := by
  obtain ⟨c1, c2⟩ := cut_all hN l (by omega)
  rw [c1]
  simp only [Option.bind_some, c2]
  have hc := cutL_can h
  have := cutL_len l
  rw [fits_model N hc (by omega), cutL_nv, cutL_enc h]
  unfold out
  split <;> rfl

theorem roomy4 {n : Nat} (h : n ≤ 1000000000) : roomy n 4 = true := by unfold roomy; exact decide_eq_true (by omega)

theorem make_ok {m : Int} (h0 : 0 ≤ m) (h1 : m ≤ 1000000000) : (decide (m = m) && decide (0 ≤ m) && decide (m ≤ 9223372036854775807) && roomy m.toNat 4) = true := by
  rw [roomy4 (by omega)]
  simp; omega

theorem make_ok2 {m : Int} (h0 : 0 ≤ m) (h1 : m ≤ 1000000000) : (decide True && decide (0 ≤ m) && decide (m ≤ 9223372036854775807) && roomy m.toNat 4) = true := by
  rw [roomy4 (by omega)]
  simp; omega

theorem add_half {N : Nat} (hN : 1000000001 < N) {a b : List Int} (ha : Dig (4294967296 : Int) a) (hb : Dig (4294967296 : Int) b) (h : b.length ≤ a.length) (hs : a.length ≤ 90000000) :
    (bif decide (wi64 ((a.length : Int) + 1) = wi64 ((a.length : Int) + 1)) && decide (0 ≤ wi64 ((a.length : Int) + 1)) && decide (wi64 ((a.length : Int) + 1) ≤ 9223372036854775807) && roomy ((wi64 ((a.length : Int) + 1)).toNat) 4 then
    nat_Add.l7 N N 0 ((splice (List.replicate ((wi64 ((a.length : Int) + 1)).toNat) (0 : Int)) 0 (a.take (min a.length ((List.replicate ((wi64 ((a.length : Int) + 1)).toNat) (0 : Int)).length)))).length : Int) 0 b (splice (List.replicate ((wi64 ((a.length : Int) + 1)).toNat) (0 : Int)) 0 (a.take (min a.length ((List.replicate ((wi64 ((a.length : Int) + 1)).toNat) (0 : Int)).length))))
      (fun y12 =>
        (nat_cut.f N 0 y12.length y12).bind fun r13 =>
        (nat_Nat_fits.f N ((r13.2.2.drop r13.1).take r13.2.1)).bind fun r14 =>
        some (r14.1, r14.2))
  else none) = some (out (nv (4294967296 : Int) a + nv (4294967296 : Int) b)) := by
  have w : wi64 ((a.length : Int) + 1) = (a.length : Int) + 1 := wi64_id (by omega) (by omega)
  have wt : ((a.length : Int) + 1).toNat = a.length + 1 := by omega
  rw [w, make_ok (by omega) (by omega), wt, splice_pad a _ (by omega)]
  simp only [cond_true]
  have e1 : a.length + 1 - a.length = 1 := by omega
  rw [e1]
  have hd : Dig (4294967296 : Int) (a ++ List.replicate 1 0) := ha.append (Dig.replicate (by decide) 1)
  have hl : (a ++ List.replicate 1 (0 : Int)).length = a.length + 1 := by simp
  have hv := pad_nv (4294967296 : Int) a 1
  have ba := nv_bound (show 0 < (4294967296 : Int) by decide) ha
  have bb := nv_bound (show 0 < (4294967296 : Int) by decide) hb
  have hm := pow_mono h
  have hpow : (4294967296 : Int) ^ (a.length + 1) = (4294967296 : Int) * (4294967296 : Int) ^ a.length := by rw [Int.pow_succ]; grind
  have hpos : (0 : Int) < (4294967296 : Int) ^ a.length := Int.pow_pos (by decide)
  obtain ⟨r, r1, r2, r3, r4⟩ := add_loop N b hb (fun y12 => (nat_cut.f N 0 y12.length y12).bind fun r13 => (nat_Nat_fits.f N ((r13.2.2.drop r13.1).take r13.2.1)).bind fun r14 => some (r14.1, r14.2)) N 0 0 (a ++ List.replicate 1 0) hd (by omega) (by omega) (by omega) (by omega) (by omega) (by omega) (by rw [hl, hpow, hv]; simp; omega)
  have e0 : ((0 : Nat) : Int) = 0 := rfl
  rw [e0] at r4
  rw [r4, fits_cut hN r1 (by omega), r3, hv]
  simp

theorem add_model {N : Nat} (hN : 1000000001 < N) {a b : List Int} (ha : Dig (4294967296 : Int) a) (hb : Dig (4294967296 : Int) b) (hs : a.length ≤ 90000000) (hs' : b.length ≤ 90000000) : nat_Add.f N a b = some (out (nv (4294967296 : Int) a + nv (4294967296 : Int) b)) := by
  unfold nat_Add.f
  by_cases h : a.length < b.length
  · have c : decide ((a.length : Int) < (b.length : Int)) = true := decide_eq_true (by omega)
    rw [c]
    have := add_half hN hb ha (by omega) hs'
    rw [Int.add_comm (nv (4294967296 : Int) a)]
    exact this
  · have c : decide ((a.length : Int) < (b.length : Int)) = false := decide_eq_false (by omega)
    rw [c]
    exact add_half hN ha hb (by omega) hs

theorem add_enc {N : Nat} (hN : 1000000001 < N) {u v : Int} (hu : 0 ≤ u) (hk : u < K) (hv : 0 ≤ v) (hk' : v < K) : nat_Add.f N (enc (4294967296 : Int) u) (enc (4294967296 : Int) v) = some (out (u + v)) := by
  obtain ⟨h1, h2⟩ := enc_spec B2 hu
  obtain ⟨h3, h4⟩ := enc_spec B2 hv
  have := enc_len128 hu hk
  have := enc_len128 hv hk'
  rw [add_model hN h1.dig h3.dig (by omega) (by omega), h2, h4]

/- Differences -/
theorem msb_ofInt {x : Int} (h0 : 0 ≤ x) (h1 : x < 4294967296) : (BitVec.ofInt 32 x).msb = decide (2147483648 ≤ x) := by
  rw [BitVec.msb_eq_decide]
  have : (BitVec.ofInt 32 x).toNat = x.toNat := by
    rw [BitVec.toNat_ofInt]
    have : x % ((2 ^ 32 : Nat) : Int) = x := by omega
    rw [this]
  rw [this]
  have e : 2 ^ (32 - 1) = 2147483648 := by decide
  rw [e]
  by_cases h : 2147483648 ≤ x
  · simp [h]; omega
  · simp [h]; omega

theorem wrap32_toNat (x : BitVec 32) : IntKind.wrap .u32 x.toNat = (x.toNat : Int) := by
  have hx := x.isLt
  simp only [IntKind.wrap]
  simp [IntKind.bits, IntKind.signed]
  omega

theorem ofInt_wrap32 (x : BitVec 32) : BitVec.ofInt 32 (IntKind.wrap .u32 x.toNat) = x := by
  have hx := x.isLt
  rw [wrap32_toNat]
  apply BitVec.eq_of_toNat_eq
  rw [BitVec.toNat_ofInt]
  omega

theorem ofInt_and32 (a b : Int) : BitVec.ofInt 32 (bit_and .u32 a b) = BitVec.ofInt 32 a &&& BitVec.ofInt 32 b := ofInt_wrap32 (BitVec.ofInt 32 a &&& BitVec.ofInt 32 b)
theorem ofInt_or32 (a b : Int) : BitVec.ofInt 32 (bit_or .u32 a b) = BitVec.ofInt 32 a ||| BitVec.ofInt 32 b := ofInt_wrap32 (BitVec.ofInt 32 a ||| BitVec.ofInt 32 b)
theorem ofInt_xor32 (a b : Int) : BitVec.ofInt 32 (bit_xor .u32 a b) = BitVec.ofInt 32 a ^^^ BitVec.ofInt 32 b := ofInt_wrap32 (BitVec.ofInt 32 a ^^^ BitVec.ofInt 32 b)

theorem top_bit (x : BitVec 32) : Int.fdiv (IntKind.wrap .u32 x.toNat) (2 ^ 31) = if x.msb then 1 else 0 := by
  rw [wrap32_toNat, fdiv_pow, BitVec.msb_eq_decide]
  have hx := x.isLt
  have e : (2 : Int) ^ 31 = 2147483648 := by decide
  have e2 : 2 ^ (32 - 1) = 2147483648 := by decide
  rw [e, e2]
  by_cases h : 2147483648 ≤ x.toNat
  · simp [h]; omega
  · simp [h]; omega

theorem sub32_model (N : Nat) {a b c : Int} (a0 : 0 ≤ a) (a1 : a < (4294967296 : Int)) (b0 : 0 ≤ b) (b1 : b < (4294967296 : Int)) (c0 : 0 ≤ c) (c1 : c ≤ 1) : bits_Sub32.f N a b c = some ((a - b - c) % (4294967296 : Int), if a < b + c then 1 else 0) := by
  unfold bits_Sub32.f
  have hd : wu32 (wu32 (a - b) - c) = (a - b - c) % (4294967296 : Int) := by rw [wu32_mod, wu32_mod]; omega
  rw [hd]
  have d0 : 0 ≤ (a - b - c) % (4294967296 : Int) := by omega
  have d1 : (a - b - c) % (4294967296 : Int) < (4294967296 : Int) := by omega
  generalize hdd : (a - b - c) % (4294967296 : Int) = d at *
  congr 2
  have hfull : BitVec.ofInt 32 4294967295 = BitVec.allOnes 32 := by decide
  have e : ∀ x y : Int, bit_or .u32 x y = IntKind.wrap .u32 ((BitVec.ofInt 32 x ||| BitVec.ofInt 32 y).toNat : Int) := fun _ _ => rfl
  rw [e, top_bit, ofInt_and32, ofInt_and32, ofInt_xor32, ofInt_xor32, ofInt_xor32, hfull]
  simp only [BitVec.msb_or, BitVec.msb_and, BitVec.msb_xor, msb_ofInt a0 a1, msb_ofInt b0 b1, msb_ofInt d0 d1]
  have hones : (BitVec.allOnes 32).msb = true := by decide
  rw [hones]
  by_cases ha : 2147483648 ≤ a <;> by_cases hb : 2147483648 ≤ b <;> by_cases hd : 2147483648 ≤ d <;> simp [ha, hb, hd] <;> omega

theorem less_loop (N : Nat) {R : Type} (b : List Int) (hb : Dig (4294967296 : Int) b) (K0 : List Int → Option R) : ∀ (n i : Nat) (c : Int) (out : List Int), Dig (4294967296 : Int) out → b.length ≤ out.length → out.length ≤ 1000000000 → i ≤ out.length → out.length - i < n → 0 ≤ c → c ≤ 1 →
    0 ≤ nv (4294967296 : Int) out - (4294967296 : Int) ^ i * c - (4294967296 : Int) ^ i * nv (4294967296 : Int) (b.drop i) →
    ∃ r, Dig (4294967296 : Int) r ∧ r.length = out.length ∧ nv (4294967296 : Int) r = nv (4294967296 : Int) out - (4294967296 : Int) ^ i * c - (4294967296 : Int) ^ i * nv (4294967296 : Int) (b.drop i) ∧ nat_less.l2 N n 0 out.length b c (out.length : Int) (i : Int) out K0 = K0 r := by
  intro n
  induction n with
  | zero => intro i c out _ _ _ _ h; omega
  | succ n ih =>
    intro i c out ho hlb hlo hi hn c0 c1 hlt
    rw [nat_less.l2]
    by_cases hil : i < out.length
    · have e0 : decide ((i : Int) < (out.length : Int)) = true := decide_eq_true (by omega)
      have e1 : (decide (0 ≤ (i : Int)) && decide ((i : Int) < (out.length : Int))) = true := by simp; omega
      have e2 : (i : Int).toNat = i := by omega
      have e3 : wi64 ((i : Int) + 1) = ((i + 1 : Nat) : Int) := by rw [wi64_id (by omega) (by omega)]; omega
      have hd := ho.get (by decide) i
      have go : ∀ y : Int, 0 ≤ y → y < (4294967296 : Int) → nv (4294967296 : Int) (b.drop i) = y + (4294967296 : Int) * nv (4294967296 : Int) (b.drop (i + 1)) → (out.set i ((out.getD i 0 - y - c) % (4294967296 : Int))).length = out.length ∧ Dig (4294967296 : Int) (out.set i ((out.getD i 0 - y - c) % (4294967296 : Int))) ∧
          nv (4294967296 : Int) (out.set i ((out.getD i 0 - y - c) % (4294967296 : Int))) - (4294967296 : Int) ^ (i + 1) * (if out.getD i 0 < y + c then 1 else 0) - (4294967296 : Int) ^ (i + 1) * nv (4294967296 : Int) (b.drop (i + 1)) = nv (4294967296 : Int) out - (4294967296 : Int) ^ i * c - (4294967296 : Int) ^ i * nv (4294967296 : Int) (b.drop i) := by
        intro y y0 y1 hdr
        refine ⟨by simp, ho.set i (by omega) (by omega), ?_⟩
        rw [nv_set (4294967296 : Int) _ out i hil, hdr, Int.pow_succ]
        have : (out.getD i 0 - y - c) % (4294967296 : Int) = out.getD i 0 - y - c + (4294967296 : Int) * (if out.getD i 0 < y + c then 1 else 0) := by split <;> omega
        rw [this]
        generalize (if out.getD i 0 < y + c then (1 : Int) else 0) = q
        grind
      rw [e1, e0, e2, e3]
      simp only [cond_true, Nat.zero_add]
      have hq : ∀ y : Int, (0 : Int) ≤ (if out.getD i 0 < y + c then 1 else 0) ∧ (if out.getD i 0 < y + c then 1 else 0 : Int) ≤ 1 := fun y => by split <;> omega
      by_cases hib : i < b.length
      · have f0 : decide ((i : Int) < (b.length : Int)) = true := decide_eq_true (by omega)
        have f1 : (decide (0 ≤ (i : Int)) && decide ((i : Int) < (b.length : Int))) = true := by simp; omega
        have hbd := hb.get (by decide) i
        rw [f1, f0, sub32_model N hd.1 hd.2 hbd.1 hbd.2 c0 c1]
        simp only [cond_true, Option.bind_some]
        obtain ⟨g1, g2, g5⟩ := go (b.getD i 0) hbd.1 hbd.2 (nv_drop (4294967296 : Int) b i hib)
        obtain ⟨r, r1, r2, r3, r4⟩ := ih (i + 1) _ _ g2 (by omega) (by omega) (by omega) (by omega) (hq _).1 (hq _).2 (by rw [g5]; exact hlt)
        refine ⟨r, r1, by omega, by rw [r3, g5], ?_⟩
        rw [g1] at r4
        exact r4
      · have f0 : decide ((i : Int) < (b.length : Int)) = false := decide_eq_false (by omega)
        rw [f0]
        simp only [cond_false]
        have hz : b.drop i = [] := List.drop_eq_nil_iff.mpr (by omega)
        have hz2 : b.drop (i + 1) = [] := List.drop_eq_nil_iff.mpr (by omega)
        by_cases hc : c = 0
        · subst hc
          refine ⟨out, ho, rfl, ?_, rfl⟩
          rw [hz]; simp [nv]
        · have hc1 : (c == 0) = false := by simpa using hc
          rw [hc1, sub32_model N hd.1 hd.2 (by omega) (by decide) c0 c1]
          simp only [cond_false, Option.bind_some]
          obtain ⟨g1, g2, g5⟩ := go 0 (by omega) (by decide) (by rw [hz, hz2]; simp [nv])
          obtain ⟨r, r1, r2, r3, r4⟩ := ih (i + 1) _ _ g2 (by omega) (by omega) (by omega) (by omega) (hq 0).1 (hq 0).2 (by rw [g5]; exact hlt)
          refine ⟨r, r1, by omega, by rw [r3, g5], ?_⟩
          rw [g1] at r4
          exact r4
    · have e0 : decide ((i : Int) < (out.length : Int)) = false := decide_eq_false (by omega)
      have hie : i = out.length := by omega
      have hz : b.drop i = [] := List.drop_eq_nil_iff.mpr (by omega)
      rw [e0]
      refine ⟨out, ho, rfl, ?_, rfl⟩
      rw [hz, hie] at hlt ⊢
      have := (nv_bound (show 0 < (4294967296 : Int) by decide) ho).2
      have hc : c = 0 := by
        rcases Int.lt_or_le 0 c with h | h
        · have : c = 1 := by omega
          subst this
          simp only [nv] at hlt
          omega
        · omega
      subst hc
      simp [nv]

theorem splice_self (a : List Int) : splice (List.replicate ((a.length : Int).toNat) (0 : Int)) 0 (a.take (min a.length ((List.replicate ((a.length : Int).toNat) (0 : Int)).length))) = a := by
  have e : (a.length : Int).toNat = a.length := by omega
  rw [e, splice_pad a _ (Nat.le_refl _)]
  simp

theorem sub_enc {N : Nat} (hN : 1000000001 < N) {u v : Int} (hu : 0 ≤ u) (hk : u < K) (hv : 0 ≤ v) : nat_Sub.f N (enc (4294967296 : Int) u) (enc (4294967296 : Int) v) = some (if u < v then ([], 10) else (enc (4294967296 : Int) (u - v), 0)) := by
  obtain ⟨h1, h2⟩ := enc_spec B2 hu
  obtain ⟨h3, h4⟩ := enc_spec B2 hv
  have hl := enc_len128 hu hk
  unfold nat_Sub.f
  rw [cmp_enc hN hu hk hv]
  simp only [Option.bind_some]
  have hc : decide (cmp u v < 0) = decide (u < v) := by
    unfold cmp
    by_cases h1 : u = v
    · subst h1; simp
    · by_cases h2 : u < v <;> simp [h1, h2]
  rw [hc]
  by_cases h : u < v
  · simp only [h, decide_true, if_true, cond_true]
  · rw [if_neg h, make_ok2 (by omega) (by omega), splice_self]
    simp only [h, decide_false, cond_true, cond_false]
    have hle : (enc (4294967296 : Int) v).length ≤ (enc (4294967296 : Int) u).length := by
      rcases Nat.lt_or_ge (enc (4294967296 : Int) u).length (enc (4294967296 : Int) v).length with hq | hq
      · have := can_cmp_len h1 h3 hq; omega
      · exact hq
    obtain ⟨r, r1, r2, r3, r4⟩ := less_loop N (enc (4294967296 : Int) v) h3.dig (fun y => some y) N 0 0 (enc (4294967296 : Int) u) h1.dig hle (by omega) (by omega) (by omega) (by omega) (by omega) (by simp [h2, h4]; omega)
    have e0 : ((0 : Nat) : Int) = 0 := rfl
    rw [e0] at r4
    unfold nat_less.f
    rw [r4]
    simp only [Option.bind_some]
    obtain ⟨c1, c2⟩ := cut_all hN r (by omega)
    rw [c1]
    simp only [Option.bind_some, c2]
    rw [cutL_enc r1, r3, h2, List.drop_zero, h4]
    simp

/- Products -/
theorem mul_inner (N : Nat) {R : Type} (i : Nat) (x : Int) (x0 : 0 ≤ x) (x1 : x < (4294967296 : Int)) (p q : Int) (P : List Int) (b : List Int) (hb : Dig (4294967296 : Int) b) (hbl : b.length ≤ 100000000) (hi : i ≤ 100000000) (K0 : Int → Int → List Int → Int → Int → List Int → List Int → Option R) : ∀ (n j : Nat) (c : Int) (out : List Int), Dig (4294967296 : Int) out → i + b.length < out.length → out.length ≤ 1000000000 → j ≤ b.length → b.length - j < n → 0 ≤ c → c < (4294967296 : Int) →
    ∃ r c', Dig (4294967296 : Int) r ∧ 0 ≤ c' ∧ c' < (4294967296 : Int) ∧ r.length = out.length ∧ nv (4294967296 : Int) r + (4294967296 : Int) ^ (i + b.length) * c' = nv (4294967296 : Int) out + (4294967296 : Int) ^ (i + j) * c + (4294967296 : Int) ^ (i + j) * x * nv (4294967296 : Int) (b.drop j) ∧ (∀ k, i + b.length ≤ k → r.getD k 0 = out.getD k 0) ∧
      nat_product.l7 N n (i : Int) x c P p q b (b.length : Int) (j : Int) b out K0 = K0 (i : Int) c' P p q b r := by
  intro n
  induction n with
  | zero => intro j c out _ _ _ _ h; omega
  | succ n ih =>
    intro j c out ho hlb hlo hj hn c0 c1
    rw [nat_product.l7]
    by_cases hjl : j < b.length
    · have e0 : decide ((j : Int) < (b.length : Int)) = true := decide_eq_true (by omega)
      have e1 : (decide (0 ≤ (j : Int)) && decide ((j : Int) < (b.length : Int))) = true := by simp; omega
      have e2 : (j : Int).toNat = j := by omega
      have e3 : wi64 ((j : Int) + 1) = ((j + 1 : Nat) : Int) := by rw [wi64_id (by omega) (by omega)]; omega
      have e4 : wi64 ((i : Int) + (j : Int)) = ((i + j : Nat) : Int) := by rw [wi64_id (by omega) (by omega)]; omega
      have e5 : (((i + j : Nat) : Int)).toNat = i + j := by omega
      have e6 : (decide (0 ≤ ((i + j : Nat) : Int)) && decide (((i + j : Nat) : Int) < (out.length : Int))) = true := by simp; omega
      have hd := ho.get (by decide) (i + j)
      have hbd := hb.get (by decide) j
      rw [e1, e0, e2, e3, e4, e5, e6]
      simp only [cond_true]
      have m0 := Int.mul_nonneg x0 hbd.1
      have m1 : x * b.getD j 0 ≤ ((4294967296 : Int) - 1) * ((4294967296 : Int) - 1) := by
        have h1 := Int.mul_le_mul_of_nonneg_left (show b.getD j 0 ≤ (4294967296 : Int) - 1 by omega) x0
        have h2 := Int.mul_le_mul_of_nonneg_right (show x ≤ (4294967296 : Int) - 1 by omega) (show (0 : Int) ≤ (4294967296 : Int) - 1 by decide)
        omega
      have m2 : ((4294967296 : Int) - 1) * ((4294967296 : Int) - 1) = 18446744065119617025 := by decide
      have p32 : (2 : Int) ^ 32 = (4294967296 : Int) := by decide
      rw [wu64_id (n := x) (by omega) (by omega), wu64_id (n := b.getD j 0) (by omega) (by omega), wu64_id (n := x * b.getD j 0) (by omega) (by omega), wu64_id (n := out.getD (i + j) 0) (by omega) (by omega), wu64_id (n := x * b.getD j 0 + out.getD (i + j) 0) (by omega) (by omega), wu64_id (n := c + (x * b.getD j 0 + out.getD (i + j) 0)) (by omega) (by omega), fdiv_pow, p32, wu32_mod]
      generalize hs : c + (x * b.getD j 0 + out.getD (i + j) 0) = s
      have hsd := step_digit s
      obtain ⟨r, c', r1, r2, r3, r4, r5, r6, r7⟩ := ih (j + 1) (s / (4294967296 : Int)) (out.set (i + j) (s % (4294967296 : Int))) (ho.set _ (by omega) (by omega)) (by simpa using hlb) (by simpa using hlo) (by omega) (by omega) (by omega) (by omega)
      refine ⟨r, c', r1, r2, r3, by simpa using r4, ?_, fun k hk => ?_, r7⟩
      · rw [r5, nv_set (4294967296 : Int) _ out (i + j) (by omega), nv_drop (4294967296 : Int) b j hjl]
        have e : i + (j + 1) = i + j + 1 := by omega
        rw [e, Int.pow_succ]
        generalize s % (4294967296 : Int) = m at *
        generalize s / (4294967296 : Int) = z at *
        have em : m = s - (4294967296 : Int) * z := by omega
        subst em
        subst hs
        grind
      · rw [r6 k hk]
        simp only [List.getD_eq_getElem?_getD, List.getElem?_set]
        rw [if_neg (by omega)]
    · have e0 : decide ((j : Int) < (b.length : Int)) = false := decide_eq_false (by omega)
      have hje : j = b.length := by omega
      rw [e0]
      have hz : b.drop j = [] := List.drop_eq_nil_iff.mpr (by omega)
      refine ⟨out, c, ho, c0, c1, rfl, ?_, fun _ _ => rfl, rfl⟩
      rw [hz, hje]; simp [nv]

theorem mul_outer {N : Nat} (hN : 1000000001 < N) {R : Type} (a b : List Int) (ha : Dig (4294967296 : Int) a) (hb : Dig (4294967296 : Int) b) (hal : a.length ≤ 10000000) (hbl : b.length ≤ 10000000) (K0 : List Int → Option R) : ∀ (n i : Nat) (out : List Int), Dig (4294967296 : Int) out → out.length = a.length + b.length → i ≤ a.length → a.length - i < n → (∀ k, i + b.length ≤ k → out.getD k 0 = 0) →
    ∃ r, Dig (4294967296 : Int) r ∧ r.length = out.length ∧ nv (4294967296 : Int) r = nv (4294967296 : Int) out + (4294967296 : Int) ^ i * nv (4294967296 : Int) (a.drop i) * nv (4294967296 : Int) b ∧ nat_product.l3 N n a (a.length : Int) (i : Int) b out K0 = K0 r := by
  intro n
  induction n with
  | zero => intro i out _ _ _ h; omega
  | succ n ih =>
    intro i out ho hlo hi hn hz
    rw [nat_product.l3]
    by_cases hil : i < a.length
    · have e0 : decide ((i : Int) < (a.length : Int)) = true := decide_eq_true (by omega)
      have e1 : (decide (0 ≤ (i : Int)) && decide ((i : Int) < (a.length : Int))) = true := by simp; omega
      have e2 : (i : Int).toNat = i := by omega
      have e3 : wi64 ((i : Int) + 1) = ((i + 1 : Nat) : Int) := by rw [wi64_id (by omega) (by omega)]; omega
      have hd := ha.get (by decide) i
      rw [e1, e0, e2]
      simp only [cond_true]
      obtain ⟨r, c', r1, r2, r3, r4, r5, r6, r7⟩ := mul_inner N i (a.getD i 0) hd.1 hd.2 (a.length : Int) (i : Int) a b hb (by omega) (by omega) (fun y26 y27 y28 y29 y30 y31 y32 =>
            bif (decide (0 ≤ (wi64 (y26 + (y31.length : Int))))) && (decide ((wi64 (y26 + (y31.length : Int))) < (y32.length : Int))) then
              nat_product.l3 N n y28 y29 (wi64 (y30 + 1)) y31 (y32.set ((wi64 (y26 + (y31.length : Int))).toNat) (wu32 y27)) K0
            else none) N 0 0 out ho (by omega) (by omega) (by omega) (by omega) (by omega) (by decide)
      have ez : ((0 : Nat) : Int) = 0 := rfl
      rw [ez] at r7
      rw [r7]
      have e4 : wi64 ((i : Int) + (b.length : Int)) = ((i + b.length : Nat) : Int) := by rw [wi64_id (by omega) (by omega)]; omega
      have e5 : (((i + b.length : Nat) : Int)).toNat = i + b.length := by omega
      have e6 : (decide (0 ≤ ((i + b.length : Nat) : Int)) && decide (((i + b.length : Nat) : Int) < (r.length : Int))) = true := by simp; omega
      rw [e4, e5, e6, e3, wu32_id r2 r3]
      simp only [cond_true]
      obtain ⟨t, t1, t2, t3, t4⟩ := ih (i + 1) (r.set (i + b.length) c') (r1.set _ r2 r3) (by simpa using r4.trans hlo) (by omega) (by omega) (fun k hk => by
        simp only [List.getD_eq_getElem?_getD, List.getElem?_set]
        rw [if_neg (by omega), ← List.getD_eq_getElem?_getD, r6 k (by omega)]
        exact hz k (by omega))
      refine ⟨t, t1, by rw [t2]; simpa using r4, ?_, t4⟩
      rw [t3, nv_set (4294967296 : Int) _ r _ (by omega), r6 _ (Nat.le_refl _), hz _ (Nat.le_refl _), nv_drop (4294967296 : Int) a i hil, Int.pow_succ]
      have : nv (4294967296 : Int) r = nv (4294967296 : Int) out + (4294967296 : Int) ^ i * a.getD i 0 * nv (4294967296 : Int) b - (4294967296 : Int) ^ (i + b.length) * c' := by
        simp only [Nat.add_zero, List.drop_zero, Int.mul_zero, Int.add_zero] at r5
        omega
      rw [this]
      grind
    · have e0 : decide ((i : Int) < (a.length : Int)) = false := decide_eq_false (by omega)
      rw [e0]
      have hze : a.drop i = [] := List.drop_eq_nil_iff.mpr (by omega)
      refine ⟨out, ho, rfl, ?_, rfl⟩
      rw [hze]; simp [nv]

theorem product_model {N : Nat} (hN : 1000000001 < N) {a b : List Int} (ha : Dig (4294967296 : Int) a) (hb : Dig (4294967296 : Int) b) (hal : a.length ≤ 10000000) (hbl : b.length ≤ 10000000) : nat_product.f N a b = some (enc (4294967296 : Int) (nv (4294967296 : Int) a * nv (4294967296 : Int) b)) := by
  unfold nat_product.f
  have w : wi64 ((a.length : Int) + (b.length : Int)) = (a.length : Int) + (b.length : Int) := wi64_id (by omega) (by omega)
  have wt : ((a.length : Int) + (b.length : Int)).toNat = a.length + b.length := by omega
  rw [w, make_ok (by omega) (by omega), wt]
  simp only [cond_true]
  have hz : ∀ k, (List.replicate (a.length + b.length) (0 : Int)).getD k 0 = 0 := fun k => by
    rw [List.getD_eq_getElem?_getD, List.getElem?_replicate]; split <;> rfl
  obtain ⟨r, r1, r2, r3, r4⟩ := mul_outer hN a b ha hb hal hbl (fun y34 => (nat_cut.f N 0 y34.length y34).bind fun r35 => some ((r35.2.2.drop r35.1).take r35.2.1)) N 0 (List.replicate (a.length + b.length) 0) (Dig.replicate (by decide) _) (by simp) (by omega) (by omega) (fun k _ => hz k)
  have ez : ((0 : Nat) : Int) = 0 := rfl
  rw [ez] at r4
  rw [r4]
  have hl : r.length = a.length + b.length := by simpa using r2
  obtain ⟨c1, c2⟩ := cut_all hN r (by omega)
  rw [c1]
  simp only [Option.bind_some, c2]
  rw [cutL_enc r1, r3, nv_replicate]
  simp

theorem mul_enc {N : Nat} (hN : 1000000001 < N) {u v : Int} (hu : 0 ≤ u) (hk : u < K) (hv : 0 ≤ v) (hk' : v < K) : nat_Mul.f N (enc (4294967296 : Int) u) (enc (4294967296 : Int) v) = some (out (u * v)) := by
  obtain ⟨h1, h2⟩ := enc_spec B2 hu
  obtain ⟨h3, h4⟩ := enc_spec B2 hv
  have l1 := enc_len128 hu hk
  have l2 := enc_len128 hv hk'
  unfold nat_Mul.f
  rw [bits_model N h1 (by omega), bits_model N h3 (by omega), h2, h4]
  simp only [Option.bind_some]
  have b1 := blen_nonneg u
  have b2 := blen_nonneg v
  have b3 := blen_bound hu 4096 hk
  have b4 := blen_bound hv 4096 hk'
  rw [wi64_id (n := blen u + blen v) (by omega) (by omega)]
  by_cases hb : blen u + blen v > 4097
  · simp only [hb, decide_true, cond_true]
    -- too long for sure
    have hu1 : (2 : Int) ^ ((blen u).toNat - 1) ≤ u := by
      rcases Int.lt_or_le u (2 ^ ((blen u).toNat - 1)) with h | h
      · have := (blen_le hu ((blen u).toNat - 1)).mpr h; omega
      · exact h
    have hv1 : (2 : Int) ^ ((blen v).toNat - 1) ≤ v := by
      rcases Int.lt_or_le v (2 ^ ((blen v).toNat - 1)) with h | h
      · have := (blen_le hv ((blen v).toNat - 1)).mpr h; omega
      · exact h
    have hp1 : (0 : Int) < 2 ^ ((blen u).toNat - 1) := Int.pow_pos (by decide)
    have hp2 : (0 : Int) < 2 ^ ((blen v).toNat - 1) := Int.pow_pos (by decide)
    have m1 := Int.mul_le_mul_of_nonneg_left hv1 (Int.le_of_lt hp1)
    have m2 := Int.mul_le_mul_of_nonneg_right hu1 hv
    have m3 : K ≤ 2 ^ ((blen u).toNat - 1) * 2 ^ ((blen v).toNat - 1) := by
      rw [← Int.pow_add]
      unfold K
      rw [pow2_cast, pow2_cast]
      have := Nat.pow_le_pow_right (show 0 < 2 by decide) (show 4096 ≤ (blen u).toNat - 1 + ((blen v).toNat - 1) by omega)
      omega
    unfold out
    rw [if_neg (by omega)]
  · simp only [hb, decide_false, cond_false]
    rw [product_model hN h1.dig h3.dig (by omega) (by omega), h2, h4]
    simp only [Option.bind_some]
    have hm := Int.mul_nonneg hu hv
    obtain ⟨h5, h6⟩ := enc_spec B2 hm
    have hlen : (enc (4294967296 : Int) (u * v)).length ≤ 256 := by
      refine enc_len hm ?_
      have m1 := Int.mul_le_mul_of_nonneg_left (show v ≤ K by omega) hu
      have m2 := Int.mul_lt_mul_of_pos_right hk (show 0 < K by unfold K; exact Int.pow_pos (by decide))
      have e : (4294967296 : Int) ^ 256 = K * K := by rw [K_eq, ← Int.pow_add]
      omega
    rw [fits_model N h5 (by omega), h6]
    unfold out
    split <;> rfl


end Go.Proofs.Ytifnooogklfifaa.NatL
