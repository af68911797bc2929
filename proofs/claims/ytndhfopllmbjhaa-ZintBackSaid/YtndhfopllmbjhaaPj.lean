-- Plain laws of the row law02: whole numbers: their parts; sums and products; texts.
import Derived.Test.YtndhfopllmbjhaaPi
import Derived.Test.YtndhfopllmbjhaaT4
import Derived.KernelRfl
namespace Go.Proofs.Ytndhfopllmbjhaa.Pure
open Go Go.Proofs.Ytndhfopllmbjhaa.Ev
set_option linter.unusedVariables false
set_option linter.unusedSimpArgs false

/-- A number without its sign. -/
def ab (x : Int) : Int := if x < 0 then -x else x
theorem ab_nonneg (x : Int) : 0 ≤ ab x := by unfold ab; split <;> omega
theorem ab_cases (x : Int) : (0 ≤ x ∧ ab x = x) ∨ (x < 0 ∧ ab x = -x) := by unfold ab; split <;> omega
theorem ab_zero {x : Int} : ab x = 0 ↔ x = 0 := by rcases ab_cases x with ⟨h, e⟩ | ⟨h, e⟩ <;> omega

def sg (x : Int) : Bool := decide (x < 0)

theorem make_model (N : Nat) {v : Int} (b : Bool) (h : Rg v) : zint_Make.f N b (enc (4294967296 : Int) v) = some (b && decide (0 < v), enc (4294967296 : Int) v) := by
  obtain ⟨h1, h2⟩ := enc_spec B2 h.lo
  have hl := enc_len128 h.lo h.hi
  unfold zint_Make.f
  rw [bits_model N h1 (by omega), h2]
  cases b
  · rfl
  · have := blen_nonneg v
    have hz := blen_le h.lo 0
    have e0 : (2 : Int) ^ 0 = 1 := rfl
    rw [e0] at hz
    have : decide (blen v > 0) = decide (0 < v) := by
      refine decide_eq_decide.mpr ⟨fun q => ?_, fun q => ?_⟩
      · rcases Int.lt_or_le 0 v with p | p
        · exact p
        · have := hz.mpr (by omega); omega
      · rcases Int.lt_or_le 0 (blen v) with p | p
        · exact p
        · have := hz.mp (by omega); omega
    simp [this]

theorem rmake_model {N : Nat} (hN : 1000000001 < N) {v : Int} (b : Bool) (h0 : 0 ≤ v) (hl : (enc (65536 : Int) v).length ≤ 1000000) : parquetref02_Make.f N b (enc (65536 : Int) v) = some (b && decide (0 < v), enc (65536 : Int) v) := by
  unfold parquetref02_Make.f
  rw [rbits_enc hN h0 (by omega)]
  simp only [Option.bind_some]
  have := blen_nonneg v
  have hz := blen_le h0 0
  have e0 : (2 : Int) ^ 0 = 1 := rfl
  rw [e0] at hz
  by_cases hv : v = 0
  · subst hv
    have : blen 0 = 0 := by decide +kernel
    rw [this, enc_zero H2]
    simp
  · have hb : ¬ blen v = 0 := fun q => by have := hz.mp (by omega); omega
    have c : (blen v == 0) = false := by simpa using hb
    have d : decide (0 < v) = true := decide_eq_true (by omega)
    rw [c, d]; simp

theorem rsign_model {N : Nat} (hN : 1000000001 < N) {v : Int} (b : Bool) (h0 : 0 ≤ v) (hl : (enc (65536 : Int) v).length ≤ 1000000) : parquetref02_Sign.f N b (enc (65536 : Int) v) = some (if v = 0 then 0 else if b then -1 else 1) := by
  unfold parquetref02_Sign.f
  rw [rbits_enc hN h0 (by omega)]
  simp only [Option.bind_some]
  have := blen_nonneg v
  have hz := blen_le h0 0
  have e0 : (2 : Int) ^ 0 = 1 := rfl
  rw [e0] at hz
  by_cases hv : v = 0
  · subst hv
    have : blen 0 = 0 := by decide +kernel
    rw [this]; rfl
  · have hb : ¬ blen v = 0 := fun q => by have := hz.mp (by omega); omega
    have c : (blen v == 0) = false := by simpa using hb
    rw [c, if_neg hv]
    cases b <;> rfl

theorem works2 : parquetlaw02_wakes.f 8589934700 = some true := by kernel_rfl

/- Texts -/
theorem ints_inj {a b : ByteArray} (h : intsOfBytes a = intsOfBytes b) : a = b := by
  rw [← bytes_ints a, h, bytes_ints b]

theorem toList_beq (a b : ByteArray) : (a.toList == b.toList) = decide (a = b) := by
  rw [toList_eq, toList_eq]
  by_cases h : a = b
  · subst h; simp
  · have : a.data.toList ≠ b.data.toList := fun e => h (by
      have : a.data = b.data := Array.toList_inj.mp e
      cases a; cases b; simp_all)
    rw [decide_eq_false h]
    exact beq_eq_false_iff_ne.mpr this

theorem minus_str : str3 = bytesOfInts [45] := by decide +kernel
theorem nought_str : str1 = bytesOfInts [48] := str48
theorem mnought_str : str2 = bytesOfInts [45, 48] := by decide +kernel

/-- A text that begins with a minus. -/
theorem minus_split {s : ByteArray} (h0 : 0 < s.size) (h : byteAt s 0 = 45) : s = bytesOfInts [45] ++ s.extract 1 s.size := by
  apply ints_inj
  have hl := ints_len s
  have e : intsOfBytes s = 45 :: (intsOfBytes s).drop 1 := by
    cases hs : intsOfBytes s with
    | nil => rw [hs] at hl; simp at hl; omega
    | cons x l => rw [byteAt_eq, hs] at h; simp at h; subst h; rfl
  have hx := extract_ints s 1
  have hb : ∀ x ∈ [45] ++ intsOfBytes (s.extract 1 s.size), (0 : Int) ≤ x ∧ x < 256 := fun x hx => by
    rcases List.mem_append.mp hx with hx | hx
    · simp at hx; omega
    · obtain ⟨i, hi, rfl⟩ := List.getElem_of_mem hx
      have := byte_bound (s.extract 1 s.size) i
      rw [byteAt_eq, List.getD_eq_getElem?_getD, List.getElem?_eq_getElem hi] at this
      exact this
  rw [← bytes_ints (s.extract 1 s.size), bytes_append, ints_bytes hb, hx, e]
  rfl

theorem num_str {v : Int} (h : Rg v) : Num (dec v) := (num_dec h.lo).1

/-- Texts, both ways. -/
theorem text2 {N : Nat} (hN : 1000000001 < N) {v : Int} (b : Bool) (h : Rg v) : ∃ t, zint_Int_Text.f N (b && decide (0 < v)) (enc (4294967296 : Int) v) = some t ∧ parquetref02_Text.f N (b && decide (0 < v)) (enc (65536 : Int) v) = some t ∧ t = (if b && decide (0 < v) then bytesOfInts [45] ++ dec v else dec v) := by
  have hl : (enc (65536 : Int) v).length ≤ 256 := encH_len h.lo (by rw [← K_H]; exact h.hi)
  have hs := dec_size h.lo h.hi
  have hroom : decide (((str3.size + (dec v).size : Nat) : Int) ≤ 9223372036854775807) = true := by
    refine decide_eq_true ?_
    have : str3.size = 1 := by decide +kernel
    omega
  unfold zint_Int_Text.f parquetref02_Text.f
  rw [rsign_model hN _ h.lo (by omega), text_model hN h.lo h.hi, rtext_enc hN h.lo h.hi]
  simp only [Option.bind_some]
  by_cases hv : 0 < v
  · have hv0 : ¬ v = 0 := by omega
    cases b
    · refine ⟨dec v, rfl, ?_, rfl⟩
      rw [if_neg hv0]; rfl
    · have d : decide (0 < v) = true := decide_eq_true hv
      rw [d, if_neg hv0, hroom, ← minus_str]
      exact ⟨str3 ++ dec v, rfl, rfl, rfl⟩
  · have hv0 : v = 0 := by have := h.lo; omega
    have d : decide (0 < v) = false := decide_eq_false hv
    rw [d, Bool.and_false, if_pos hv0]
    exact ⟨dec v, rfl, rfl, rfl⟩

theorem zero_rg : Rg 0 := ⟨Int.le_refl _, K_pos⟩

/-- The rest of reading, from a text without its minus. -/
theorem parse_rest {N : Nat} (hN : 1000000001 < N) (b : Bool) (d : ByteArray) (hs : d.size ≤ 1000000) : ∃ v e, Rg v ∧ ((nat_Parse.f N d).bind fun r2 => bif r2.2 != 0 then some (false, ([] : List Int), r2.2) else (zint_Make.f N b r2.1).bind fun r3 => some (r3.1, r3.2, (0 : Int))) = some (b && decide (0 < v), enc (4294967296 : Int) v, e) ∧
    ((parquetref01_Digits.f N d).bind fun r2 => bif !r2 then some (false, ([] : List Int), (12 : Int)) else (parquetref01_Parse.f N d).bind fun r3 => bif !r3.2 then some (false, [], 3) else (parquetref02_Make.f N b r3.1).bind fun r4 => some (r4.1, r4.2, 0)) = some (b && decide (0 < v), enc (65536 : Int) v, e) ∧ (e = 0 → Num d ∧ v = pv (intsOfBytes d)) := by
  have e1 : enc (4294967296 : Int) 0 = [] := enc_zero B2
  have e2 : enc (65536 : Int) 0 = [] := enc_zero H2
  rw [parse_model hN d (by omega), rdigits_model hN d (by omega)]
  simp only [Option.bind_some]
  by_cases hn : Num d
  · rw [if_pos hn, rparse_model hN hn, decide_eq_true hn]
    unfold out
    by_cases hk : pv (intsOfBytes d) < K
    · have hr : Rg (pv (intsOfBytes d)) := ⟨(pv_bound hn.2.2).1, hk⟩
      have hl : (enc (65536 : Int) (pv (intsOfBytes d))).length ≤ 256 := encH_len hr.lo (by rw [← K_H]; exact hk)
      rw [if_pos hk, if_pos hk]
      refine ⟨_, 0, hr, ?_, ?_, fun _ => ⟨hn, rfl⟩⟩
      · simp only [bne_self_eq_false, cond_false, make_model N b hr, Option.bind_some]
      · simp only [Bool.not_true, cond_false, Option.bind_some, rmake_model hN b hr.lo (by omega)]
    · rw [if_neg hk, if_neg hk]
      refine ⟨0, 3, zero_rg, ?_, ?_, fun h => absurd h (by decide)⟩
      · rw [e1]; simp
      · rw [e2]; simp
  · rw [if_neg hn, decide_eq_false hn]
    refine ⟨0, 12, zero_rg, ?_, ?_, fun h => absurd h (by decide)⟩
    · rw [e1]; simp
    · rw [e2]; simp

/-- Reading, both ways. -/
theorem parse2 {N : Nat} (hN : 1000000001 < N) (s : ByteArray) (hs : s.size ≤ 1000000) : ∃ v b e, Rg v ∧ zint_Parse.f N s = some (b && decide (0 < v), enc (4294967296 : Int) v, e) ∧ parquetref02_Parse.f N s = some (b && decide (0 < v), enc (65536 : Int) v, e) ∧ (e = 0 → (if b && decide (0 < v) then bytesOfInts [45] ++ dec v else dec v) = s) := by
  have e1 : enc (4294967296 : Int) 0 = [] := enc_zero B2
  have e2 : enc (65536 : Int) 0 = [] := enc_zero H2
  unfold zint_Parse.f parquetref02_Parse.f
  by_cases h0 : s.size = 0
  · have c : decide ((s.size : Int) > 0) = false := decide_eq_false (by omega)
    rw [c]
    obtain ⟨v, e, rv, p1, p2, p3⟩ := parse_rest hN false s hs
    have hne : ¬ s = str2 := fun h => by rw [h] at h0; revert h0; decide +kernel
    have c2 : decide ((s.size : Int) < (s.size : Int)) = false := decide_eq_false (by omega)
    refine ⟨v, false, e, rv, ?_, ?_, fun he => by obtain ⟨q1, q2⟩ := p3 he; exact absurd h0 q1.1⟩
    · rw [toList_beq, decide_eq_false hne]; exact p1
    · rw [c2]; exact p2
  · have c : decide ((s.size : Int) > 0) = true := decide_eq_true (by omega)
    have c' : decide (0 < (s.size : Int)) = true := decide_eq_true (by omega)
    rw [c]
    simp only [cond_true]
    by_cases hm : byteAt s 0 = 45
    · have hmb : (byteAt s 0 == 45) = true := by simpa using hm
      have et : (s.size : Int).toNat = s.size := by omega
      have c3 : ((decide (1 ≤ (s.size : Int)) && decide ((s.size : Int) ≤ (s.size : Int))) && decide ((s.size : Int) ≤ (s.size : Int))) = true := by
        rw [decide_eq_true (show 1 ≤ (s.size : Int) by omega), decide_eq_true (show (s.size : Int) ≤ (s.size : Int) by omega)]; rfl
      rw [hmb, c3, et]
      simp only [cond_true]
      have hsp := minus_split (show 0 < s.size by omega) hm
      have hds : (s.extract 1 s.size).size = s.size - 1 := by rw [← ints_len, extract_ints, List.length_drop, ints_len]
      generalize hd : s.extract 1 s.size = d at *
      have hiff : (s = str2) ↔ (d = str1) := by
        rw [hsp, mnought_str, nought_str]
        constructor
        · intro h
          have h' : intsOfBytes (bytesOfInts [45] ++ d) = intsOfBytes (bytesOfInts [45, 48]) := by rw [h]
          have hb : ∀ x ∈ [45] ++ intsOfBytes d, (0 : Int) ≤ x ∧ x < 256 := fun x hx => by
            rcases List.mem_append.mp hx with hx | hx
            · simp at hx; omega
            · obtain ⟨i, hi, rfl⟩ := List.getElem_of_mem hx
              have := byte_bound d i
              rw [byteAt_eq, List.getD_eq_getElem?_getD, List.getElem?_eq_getElem hi] at this
              exact this
          rw [← bytes_ints d, bytes_append, ints_bytes hb, ints_bytes (by simp)] at h'
          have : intsOfBytes d = [48] := by simpa using h'
          apply ints_inj
          rw [this, ints_bytes (by simp)]
        · intro h
          rw [h, bytes_append]; rfl
      rw [toList_beq, toList_beq]
      by_cases hz : d = str1
      · rw [decide_eq_true (hiff.mpr hz), decide_eq_true hz]
        refine ⟨0, false, 12, zero_rg, ?_, ?_, fun h => absurd h (by decide)⟩
        · rw [e1]; rfl
        · rw [e2]; rfl
      · rw [decide_eq_false (fun h => hz (hiff.mp h)), decide_eq_false hz]
        simp only [cond_false]
        obtain ⟨v, e, rv, p1, p2, p3⟩ := parse_rest hN true d (by omega)
        have c4 : decide ((d.size : Int) < (s.size : Int)) = true := decide_eq_true (by omega)
        rw [c4]
        refine ⟨v, true, e, rv, p1, p2, fun he => ?_⟩
        obtain ⟨q1, q2⟩ := p3 he
        have hdec : dec v = d := by rw [q2]; exact dec_pv q1
        have hv : 0 < v := by
          rcases Int.lt_or_le 0 v with h | h
          · exact h
          · exfalso
            have : v = 0 := by have := rv.lo; omega
            rw [this] at hdec
            exact hz (by rw [← hdec, nought_str]; rfl)
        rw [decide_eq_true hv, hdec]
        exact hsp.symm
    · have hmb : (byteAt s 0 == 45) = false := by simpa using hm
      have hne : ¬ s = str2 := fun h => by rw [h] at hm; exact hm (by decide +kernel)
      have c2 : decide ((s.size : Int) < (s.size : Int)) = false := decide_eq_false (by omega)
      rw [hmb, toList_beq, decide_eq_false hne, c2]
      simp only [cond_false]
      obtain ⟨v, e, rv, p1, p2, p3⟩ := parse_rest hN false s hs
      refine ⟨v, false, e, rv, p1, p2, fun he => ?_⟩
      obtain ⟨q1, q2⟩ := p3 he
      rw [q2]
      exact dec_pv q1

theorem ZintTexts (s : ByteArray) (w1 : s.size ≤ 140737488351232) : ∃ N, parquetlaw02_ZintTexts.f N s = some true := by
  refine ⟨8589934700, ?_⟩
  have hN : 1000000001 < 8589934700 := by decide
  have hw := works2
  generalize 8589934700 = N at *
  unfold parquetlaw02_ZintTexts.f
  by_cases hl : (s.size : Int) > 5000
  · rw [decide_eq_true hl, hw]; rfl
  · rw [decide_eq_false hl]
    simp only [cond_false]
    obtain ⟨v, b, e, rv, p1, p2, p3⟩ := parse2 hN s (by omega)
    obtain ⟨t, t1, t2, t3⟩ := text2 hN b rv
    rw [p1, p2]
    simp only [Option.bind_some, bne_self_eq_false, cond_false]
    rw [t1, t2, hw]
    by_cases he : e = 0
    · have := p3 he
      rw [← t3] at this
      subst this
      subst he
      simp
    · have c : (e == 0) = false := by simpa using he
      simp [c]

end Go.Proofs.Ytndhfopllmbjhaa.Pure
