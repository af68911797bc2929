-- Plain laws of the row law01: NatRing and NatBack.
import Derived.Test.YtnjlpjdncejfcaaPe
import Derived.Test.YtnjlpjdncejfcaaT4
import Derived.KernelRfl
namespace Go.Proofs.Ytnjlpjdncejfcaa.Pure
open Go Go.Proofs.Ytnjlpjdncejfcaa.Ev
set_option linter.unusedVariables false
set_option linter.unusedSimpArgs false

theorem K_pos : 0 < K := by unfold K; exact Int.pow_pos (by decide)
theorem K_big : 18446744073709551616 < K := by unfold K; decide +kernel

/-- What comes out: the number, or nought, and the code. -/
def ov (x : Int) : Int := if x < K then x else 0
def oe (x : Int) : Int := if x < K then 0 else 3
structure Rg (x : Int) : Prop where
  lo : 0 ≤ x
  hi : x < K
theorem Rg.ov {x : Int} (h : 0 ≤ x) : Rg (ov x) := by
  unfold Pure.ov; have := K_pos
  split
  · exact ⟨h, by assumption⟩
  · exact ⟨Int.le_refl _, by omega⟩
theorem out_eq (x : Int) : out x = (enc (4294967296 : Int) (ov x), oe x) := by
  unfold out ov oe
  by_cases h : x < K
  · rw [if_pos h, if_pos h, if_pos h]
  · rw [if_neg h, if_neg h, if_neg h, enc_zero B2]
theorem add' {N : Nat} (hN : 1000000001 < N) {u v : Int} (hu : Rg u) (hv : Rg v) : nat_Add.f N (enc (4294967296 : Int) u) (enc (4294967296 : Int) v) = some (enc (4294967296 : Int) (ov (u + v)), oe (u + v)) := by
  rw [add_enc hN hu.lo hu.hi hv.lo hv.hi, out_eq]
theorem mul' {N : Nat} (hN : 1000000001 < N) {u v : Int} (hu : Rg u) (hv : Rg v) : nat_Mul.f N (enc (4294967296 : Int) u) (enc (4294967296 : Int) v) = some (enc (4294967296 : Int) (ov (u * v)), oe (u * v)) := by
  rw [mul_enc hN hu.lo hu.hi hv.lo hv.hi, out_eq]
theorem cmp' {N : Nat} (hN : 1000000001 < N) {u v : Int} (hu : Rg u) (hv : Rg v) : nat_Cmp.f N (enc (4294967296 : Int) u) (enc (4294967296 : Int) v) = some (cmp u v) := cmp_enc hN hu.lo hu.hi hv.lo
theorem cmp_self (u : Int) : cmp u u = 0 := by unfold cmp; simp
theorem two_same {N : Nat} (hN : 1000000001 < N) {u : Int} (hu : Rg u) (e : Int) : parquetlaw01_two.f N (enc (4294967296 : Int) u) e (enc (4294967296 : Int) u) e = some true := by
  unfold parquetlaw01_two.f
  rw [cmp' hN hu hu, cmp_self]
  cases e != 0 <;> rfl

theorem oe_zero (x : Int) : (oe x == 0) = decide (x < K) := by unfold oe; by_cases h : x < K <;> simp [h]
theorem oe_nz (x : Int) : (oe x != 0) = !decide (x < K) := by unfold oe; by_cases h : x < K <;> simp [h]

theorem works_true : parquetlaw01_works.f 8589934700 = some true := by kernel_rfl

theorem beyond3 (N : Nat) (s t u : ByteArray) : ∃ b, parquetlaw01_beyond3.f N s t u = some b ∧ (b = false → s.size ≤ 16384 ∧ t.size ≤ 16384 ∧ u.size ≤ 16384) := by
  unfold parquetlaw01_beyond3.f
  by_cases h1 : (s.size : Int) > 16384
  · exact ⟨true, by simp [h1], by simp⟩
  · by_cases h2 : (t.size : Int) > 16384
    · exact ⟨true, by simp [h1, h2], by simp⟩
    · by_cases h3 : (u.size : Int) > 16384
      · exact ⟨true, by simp [h1, h2, h3], by simp⟩
      · exact ⟨false, by simp [h1, h2, h3], fun _ => ⟨by omega, by omega, by omega⟩⟩

theorem beyond1 (N : Nat) (s : ByteArray) : ∃ b, parquetlaw01_beyond1.f N s = some b ∧ (b = false → s.size ≤ 16384) := by
  unfold parquetlaw01_beyond1.f
  by_cases h1 : (s.size : Int) > 16384
  · exact ⟨true, by simp [h1], by simp⟩
  · exact ⟨false, by simp [h1], fun _ => by omega⟩

/-- A text is a number, or is refused. -/
theorem parse_cases {N : Nat} (hN : 1000000001 < N) (s : ByteArray) (hs : s.size ≤ 1000000000) : (∃ u, Rg u ∧ Num s ∧ u = pv (intsOfBytes s) ∧ nat_Parse.f N s = some (enc (4294967296 : Int) u, 0)) ∨ (∃ e, e ≠ 0 ∧ (e = 12 ∨ e = 3) ∧ nat_Parse.f N s = some ([], e)) := by
  rw [parse_model hN s hs]
  by_cases hn : Num s
  · rw [if_pos hn]
    unfold out
    by_cases hk : pv (intsOfBytes s) < K
    · rw [if_pos hk]; exact .inl ⟨_, ⟨(pv_bound hn.2.2).1, hk⟩, hn, rfl, rfl⟩
    · rw [if_neg hk]; exact .inr ⟨3, by decide, .inr rfl, rfl⟩
  · rw [if_neg hn]; exact .inr ⟨12, by decide, .inl rfl, rfl⟩

theorem NatRing (s t u : ByteArray) (w1 : s.size ≤ 140737488351232) (w2 : t.size ≤ 140737488351232) (w3 : u.size ≤ 140737488351232) : ∃ N, parquetlaw01_NatRing.f N s t u = some true := by
  refine ⟨8589934700, ?_⟩
  have hN : 1000000001 < 8589934700 := by decide
  have hw := works_true
  generalize 8589934700 = N at *
  obtain ⟨b, hb1, hb2⟩ := beyond3 N s t u
  unfold parquetlaw01_NatRing.f
  rw [hw, hb1]
  cases b
  · obtain ⟨s1, s2, s3⟩ := hb2 rfl
    simp only [Option.bind_some, Bool.not_true, cond_false]
    have hall : (∃ x y z, Rg x ∧ Rg y ∧ Rg z ∧ parquetlaw01_all.f N s t u = some (true, enc (4294967296 : Int) x, enc (4294967296 : Int) y, enc (4294967296 : Int) z, s, t, u)) ∨ parquetlaw01_all.f N s t u = some (false, [], [], [], s, t, u) := by
      unfold parquetlaw01_all.f
      rcases parse_cases hN s (by omega) with ⟨x, rx, _, _, hx⟩ | ⟨e, he, _, hx⟩
      · rcases parse_cases hN t (by omega) with ⟨y, ry, _, _, hy⟩ | ⟨e, he, _, hy⟩
        · rcases parse_cases hN u (by omega) with ⟨z, rz, _, _, hz⟩ | ⟨e, he, _, hz⟩
          · rw [hx, hy, hz]; exact .inl ⟨x, y, z, rx, ry, rz, rfl⟩
          · have : (e != 0) = true := by simpa using he
            rw [hx, hy, hz]; exact .inr (by simp [this])
        · have : (e != 0) = true := by simpa using he
          rw [hx, hy]; exact .inr (by simp [this])
      · have : (e != 0) = true := by simpa using he
        rw [hx]; exact .inr (by simp [this])
    rcases hall with ⟨x, y, z, rx, ry, rz, h⟩ | h
    · rw [h]
      simp only [Option.bind_some, cond_true]
      have xy0 := Int.add_nonneg rx.lo ry.lo
      have yz0 := Int.add_nonneg ry.lo rz.lo
      have mxy := Int.mul_nonneg rx.lo ry.lo
      have mxz := Int.mul_nonneg rx.lo rz.lo
      have myz := Int.mul_nonneg ry.lo rz.lo
      have a1 := add' hN rx ry
      have a2 := add' hN ry rx
      rw [Int.add_comm y x] at a2
      have m1 := mul' hN rx ry
      have m2 := mul' hN ry rx
      rw [Int.mul_comm y x] at m2
      have a3 := add' hN ry rz
      have m3 := mul' hN rx rz
      have m4 := mul' hN ry rz
      have p1 := mul' hN (Rg.ov mxy) rz
      have p2 := mul' hN rx (Rg.ov myz)
      rw [a1, a2, m1, m2, a3, m3, m4]
      simp only [Option.bind_some, bne_self_eq_false, cond_false, two_same hN (Rg.ov xy0), two_same hN (Rg.ov mxy), Bool.not_true, oe_zero]
      rw [add' hN (Rg.ov xy0) rz, mul' hN (Rg.ov xy0) rz, p1, p2]
      simp only [Option.bind_some]
      -- the last part: products of three
      have last : x * y < K → y * z < K → (oe (ov (x * y) * z) = oe (x * ov (y * z)) ∧ ov (ov (x * y) * z) = ov (x * ov (y * z))) := by
        intro h1 h2
        have e1 : ov (x * y) = x * y := by unfold ov; rw [if_pos h1]
        have e2 : ov (y * z) = y * z := by unfold ov; rw [if_pos h2]
        rw [e1, e2, Int.mul_assoc]; exact ⟨rfl, rfl⟩
      have fin : (bif decide (x * y < K) then
            bif decide (y * z < K) then
              bif oe (ov (x * y) * z) != oe (x * ov (y * z)) then
                some false
              else
              (parquetlaw01_two.f N (enc (4294967296 : Int) (ov (ov (x * y) * z))) (oe (ov (x * y) * z)) (enc (4294967296 : Int) (ov (x * ov (y * z)))) (oe (x * ov (y * z)))).bind fun r29 =>
              bif !r29 then
                some false
              else
              some true
            else
            some true
          else
          some true) = some true := by
        by_cases h1 : x * y < K
        · by_cases h2 : y * z < K
          · obtain ⟨q1, q2⟩ := last h1 h2
            rw [q1, q2]
            simp [h1, h2, two_same hN (Rg.ov (Int.mul_nonneg rx.lo (Rg.ov myz).lo))]
          · simp [h1, h2]
        · simp [h1]
      rw [fin]
      have back : x + y < K → nat_Sub.f N (enc (4294967296 : Int) (ov (x + y))) (enc (4294967296 : Int) y) = some (enc (4294967296 : Int) x, 0) := by
        intro h1
        have e1 : ov (x + y) = x + y := by unfold ov; rw [if_pos h1]
        rw [e1, sub_enc hN xy0 h1 ry.lo, if_neg (by have := rx.lo; omega)]
        have : x + y - y = x := by omega
        rw [this]
      by_cases h1 : x + y < K
      · have e1 : ov (x + y) = x + y := by unfold ov; rw [if_pos h1]
        rw [back h1]
        simp only [h1, decide_true, cond_true, Option.bind_some, cmp' hN rx rx, cmp_self, bne_self_eq_false, cond_false]
        rw [e1]
        have xyz0 : 0 ≤ (x + y) * z := Int.mul_nonneg xy0 rz.lo
        have dist : (x + y) * z = x * z + y * z := Int.add_mul ..
        -- the sums' product
        have mid : (x + y) * z < K → nat_Add.f N (enc (4294967296 : Int) (ov (x * z))) (enc (4294967296 : Int) (ov (y * z))) = some (enc (4294967296 : Int) ((x + y) * z), 0) ∧ oe (x * z) = 0 ∧ oe (y * z) = 0 ∧ ov ((x + y) * z) = (x + y) * z := by
          intro h2
          have q1 : x * z < K := by omega
          have q2 : y * z < K := by omega
          have f1 : ov (x * z) = x * z := by unfold ov; rw [if_pos q1]
          have f2 : ov (y * z) = y * z := by unfold ov; rw [if_pos q2]
          have f3 : ov ((x + y) * z) = (x + y) * z := by unfold ov; rw [if_pos h2]
          have f4 : oe ((x + y) * z) = 0 := by unfold oe; rw [if_pos h2]
          rw [f1, f2, add' hN ⟨mxz, q1⟩ ⟨myz, q2⟩, ← dist, f3, f4]
          exact ⟨rfl, by unfold oe; rw [if_pos q1], by unfold oe; rw [if_pos q2], rfl⟩
        by_cases h3 : y + z < K
        · have e3 : ov (y + z) = y + z := by unfold ov; rw [if_pos h3]
          have a5 := add' hN rx ⟨yz0, h3⟩
          rw [← Int.add_assoc] at a5
          rw [e3, a5]
          simp only [h3, decide_true, cond_true, Option.bind_some, bne_self_eq_false, cond_false, two_same hN (Rg.ov (show 0 ≤ x + y + z by have := rz.lo; omega)), Bool.not_true]
          by_cases h2 : (x + y) * z < K
          · obtain ⟨q1, q2, q3, q4⟩ := mid h2
            rw [q1, q2, q3, q4]
            simp [oe_zero, h2, cmp' hN ⟨xyz0, h2⟩ ⟨xyz0, h2⟩, cmp_self]
          · simp [oe_zero, h2]
        · simp only [h3, decide_false, cond_false]
          by_cases h2 : (x + y) * z < K
          · obtain ⟨q1, q2, q3, q4⟩ := mid h2
            rw [q1, q2, q3, q4]
            simp [oe_zero, h2, cmp' hN ⟨xyz0, h2⟩ ⟨xyz0, h2⟩, cmp_self]
          · simp [oe_zero, h2]
      · simp only [h1, decide_false, cond_false]
    · rw [h]; rfl
  · rfl

/- Texts there and back -/
theorem ints_bytes {l : List Int} (h : ∀ x ∈ l, 0 ≤ x ∧ x < 256) : intsOfBytes (bytesOfInts l) = l := by
  unfold intsOfBytes bytesOfInts
  simp only [List.map_map]
  conv => rhs; rw [← List.map_id l]
  apply List.map_congr_left
  intro x hx
  have := h x hx
  simp only [Function.comp, id]
  rw [UInt8.toNat_ofNat']
  omega

theorem bytes_ints (s : ByteArray) : bytesOfInts (intsOfBytes s) = s := by
  unfold intsOfBytes bytesOfInts
  have : List.map (fun n : Int => UInt8.ofNat n.toNat) (List.map (fun b : UInt8 => (b.toNat : Int)) s.data.toList) = s.data.toList := by
    rw [List.map_map]
    conv => rhs; rw [← List.map_id s.data.toList]
    apply List.map_congr_left
    intro x hx
    simp
  rw [this]

theorem AllD.bytes {l : List Int} (h : AllD l) : ∀ x ∈ l, 0 ≤ x ∧ x < 256 := fun x hx => by have := h x hx; omega

theorem pv_rd : ∀ v : Nat, pv (rd v).reverse = v := by
  intro v
  induction v using Nat.strongRecOn with
  | _ v ih =>
    by_cases h0 : v = 0
    · subst h0; rw [rd_zero]; rfl
    · rw [rd_pos h0, List.reverse_cons, pv_append, ih (v / 10) (by omega)]
      simp [pv]
      omega

theorem rd_pv : ∀ (n : Nat) (l : List Int), l.length = n → AllD l → l ≠ [] → l.getD 0 0 ≠ 48 → (rd (pv l).toNat).reverse = l := by
  intro n
  induction n with
  | zero => intro l h _ hne; exact absurd (List.length_eq_zero_iff.mp h) hne
  | succ n ih =>
    intro l hl hd hne h0
    obtain ⟨m, x, rfl⟩ : ∃ m x, l = m ++ [x] := ⟨l.dropLast, l.getLast hne, (List.dropLast_concat_getLast hne).symm⟩
    have hx := hd x (by simp)
    have hm : AllD m := fun y hy => hd y (by simp [hy])
    have hb := pv_bound hm
    have hp : pv (m ++ [x]) = 10 * pv m + (x - 48) := by rw [pv_append]; simp [pv]; omega
    by_cases hme : m = []
    · subst hme
      have h48 : x ≠ 48 := by simpa using h0
      have e : (pv ([] ++ [x])).toNat = (x - 48).toNat := by rw [hp]; simp [pv]
      rw [e, rd_pos (by omega)]
      have : (x - 48).toNat / 10 = 0 := by omega
      rw [this, rd_zero]
      simp
      omega
    · have h0m : m.getD 0 0 ≠ 48 := by
        cases m with
        | nil => exact absurd rfl hme
        | cons y m => simpa using h0
      have hlow := pv_lower hm hme h0m
      have hpp : (0 : Int) < 10 ^ (m.length - 1) := Int.pow_pos (by decide)
      rw [hp, rd_pos (by omega)]
      have e1 : (10 * pv m + (x - 48)).toNat / 10 = (pv m).toNat := by omega
      have e2 : (48 : Int) + (((10 * pv m + (x - 48)).toNat % 10 : Nat) : Int) = x := by omega
      rw [e1, e2, List.reverse_cons, ih m (by simpa using hl) hm hme h0m]

theorem dec_pv {s : ByteArray} (h : Num s) : dec (pv (intsOfBytes s)) = s := by
  have hl := ints_len s
  have hne : intsOfBytes s ≠ [] := fun e => by rw [e] at hl; exact h.1 hl.symm
  unfold dec
  by_cases h0 : byteAt s 0 = 48
  · -- one nought
    have h1 : s.size = 1 := by
      rcases Nat.lt_or_ge 1 s.size with hq | hq
      · exact absurd h0 (h.2.1 hq)
      · have := h.1; omega
    obtain ⟨x, hx⟩ : ∃ x, intsOfBytes s = [x] := List.length_eq_one_iff.mp (by omega)
    have : x = 48 := by rw [byteAt_eq, hx] at h0; simpa using h0
    subst this
    rw [hx, if_pos (by simp [pv]), ← hx, bytes_ints]
  · have h1 : (intsOfBytes s).getD 0 0 ≠ 48 := by rw [← byteAt_eq]; exact h0
    have hlow := pv_lower h.2.2 hne h1
    have hpp : (0 : Int) < 10 ^ ((intsOfBytes s).length - 1) := Int.pow_pos (by decide)
    rw [if_neg (by omega), rd_pv _ _ rfl h.2.2 hne h1, bytes_ints]

theorem rd_last {v : Nat} (h : v ≠ 0) : ∃ l x, rd v = l ++ [x] ∧ x ≠ 48 := by
  induction v using Nat.strongRecOn with
  | _ v ih =>
    rw [rd_pos h]
    by_cases h10 : v / 10 = 0
    · rw [h10, rd_zero]
      exact ⟨[], _, rfl, by omega⟩
    · obtain ⟨l, x, hl, hx⟩ := ih (v / 10) (by omega) h10
      rw [hl]
      exact ⟨_ :: l, x, rfl, hx⟩

theorem num_dec {v : Int} (h0 : 0 ≤ v) : Num (dec v) ∧ pv (intsOfBytes (dec v)) = v := by
  unfold dec
  by_cases hv : v = 0
  · subst hv
    rw [if_pos rfl]
    have hi : intsOfBytes (bytesOfInts [48]) = [48] := ints_bytes (by simp)
    have hs : (bytesOfInts [48]).size = 1 := by rw [← ints_len, hi]; rfl
    refine ⟨⟨by omega, fun h => by omega, by rw [hi]; intro x hx; simp at hx; omega⟩, by rw [hi]; simp [pv]⟩
  · rw [if_neg hv]
    have hd : AllD (rd v.toNat).reverse := fun x hx => rd_dig v.toNat x (List.mem_reverse.mp hx)
    have hi : intsOfBytes (bytesOfInts (rd v.toNat).reverse) = (rd v.toNat).reverse := ints_bytes hd.bytes
    have hs : (bytesOfInts (rd v.toNat).reverse).size = (rd v.toNat).length := by rw [← ints_len, hi, List.length_reverse]
    obtain ⟨l, x, hl, hx⟩ := rd_last (v := v.toNat) (by omega)
    refine ⟨⟨by rw [hs, hl]; simp, fun _ => ?_, by rw [hi]; exact hd⟩, by rw [hi, pv_rd]; omega⟩
    rw [byteAt_eq, hi, hl]
    simpa using hx

theorem dec_size {v : Int} (h0 : 0 ≤ v) (hk : v < K) : (dec v).size ≤ 1300 := by
  unfold dec
  by_cases hv : v = 0
  · rw [if_pos hv]; decide +kernel
  · rw [if_neg hv]
    have hd : AllD (rd v.toNat).reverse := fun x hx => rd_dig v.toNat x (List.mem_reverse.mp hx)
    rw [← ints_len, ints_bytes hd.bytes, List.length_reverse]
    exact rd_short h0 hk

theorem parse_dec {N : Nat} (hN : 1000000001 < N) {v : Int} (h : Rg v) : nat_Parse.f N (dec v) = some (enc (4294967296 : Int) v, 0) := by
  obtain ⟨h1, h2⟩ := num_dec h.lo
  have := dec_size h.lo h.hi
  rw [parse_model hN _ (by omega), if_pos h1, h2]
  unfold out
  rw [if_pos h.hi]

/-- A number as a machine's. -/
theorem u64_model (N : Nat) {v : Int} (h0 : 0 ≤ v) : nat_Nat_Uint64.f N (enc (4294967296 : Int) v) = some (if v < 18446744073709551616 then (v, true) else (0, false)) := by
  obtain ⟨h1, h2⟩ := enc_spec B2 h0
  generalize enc (4294967296 : Int) v = l at *
  unfold nat_Nat_Uint64.f
  match l, h1, h2 with
  | [], h1, h2 =>
    simp only [nv] at h2
    subst h2; rfl
  | [x], h1, h2 =>
    have hx := h1.dig.head
    simp only [nv] at h2
    have : x = v := by omega
    subst this
    simp [wu64_id (n := x) (by omega) (by omega)]
    omega
  | [x, y], h1, h2 =>
    have hx := h1.dig.head
    have hy := h1.dig.tail.head
    simp only [nv] at h2
    have p32 : (2 : Int) ^ 32 = 4294967296 := by decide
    simp
    rw [wu64_id (n := x) (by omega) (by omega), wu64_id (n := y) (by omega) (by omega), wu64_id (n := y * 4294967296) (by omega) (by omega), or_shift hy.1 hy.2 hx.1 hx.2]
    rw [if_pos (by omega)]
    congr 1
    omega
  | x :: y :: z :: l, h1, h2 =>
    have hlow := h1.lower (by decide) (by simp)
    have hp : (4294967296 : Int) ^ 2 ≤ (4294967296 : Int) ^ ((x :: y :: z :: l).length - 1) := pow_mono (by simp)
    have e : (4294967296 : Int) ^ 2 = 18446744073709551616 := by decide
    rw [if_neg (by omega)]
    have c0 : (((x :: y :: z :: l).length : Int) == 0) = false := by simp; omega
    have c1 : (((x :: y :: z :: l).length : Int) == 1) = false := by simp; omega
    have c2 : (((x :: y :: z :: l).length : Int) == 2) = false := by simp; omega
    rw [c0, c1, c2]; rfl

theorem wf_u64 {n : Int} (h : (Lit.int .u64 n).wf = true) : 0 ≤ n ∧ n < 18446744073709551616 := by
  simp [Lit.wf, IntKind.min, IntKind.max, IntKind.bits, IntKind.signed] at h
  omega

theorem NatBack (s : ByteArray) (n : Int) (w1 : s.size ≤ 140737488351232) (w2 : (Lit.int .u64 n).wf = true) : ∃ N, parquetlaw01_NatBack.f N s n = some true := by
  refine ⟨8589934700, ?_⟩
  have hN : 1000000001 < 8589934700 := by decide
  have hw := works_true
  generalize 8589934700 = N at *
  obtain ⟨b, hb1, hb2⟩ := beyond1 N s
  obtain ⟨n0, n1⟩ := wf_u64 w2
  have hr : Rg n := ⟨n0, by have := K_big; omega⟩
  unfold parquetlaw01_NatBack.f
  rw [hw, hb1]
  cases b
  · have s1 := hb2 rfl
    simp only [Option.bind_some, Bool.not_true, cond_false]
    rw [of_model hN n0 n1]
    simp only [Option.bind_some]
    rw [text_model hN n0 hr.hi]
    simp only [Option.bind_some]
    rw [parse_dec hN hr]
    simp only [Option.bind_some]
    rw [u64_model N n0, if_pos n1, cmp' hN hr hr, cmp_self]
    rcases parse_cases hN s (by omega) with ⟨x, rx, hn, hx, hp⟩ | ⟨e, he, he2, hp⟩
    · rw [hp]
      simp only [Option.bind_some]
      rw [text_model hN rx.lo rx.hi, hx, dec_pv hn]
      simp
    · have e1 : (e == 0) = false := by simpa using he
      rw [hp]
      rcases he2 with rfl | rfl <;> simp
  · rfl

end Go.Proofs.Ytnjlpjdncejfcaa.Pure
