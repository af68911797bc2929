-- Plain laws of the row law02: numbers handed in; answers; ZintSums, ZintQuos.
import Derived.Test.YtndhfopllmbjhaaPl
namespace Go.Proofs.Ytndhfopllmbjhaa.Pure
open Go Go.Proofs.Ytndhfopllmbjhaa.Ev
set_option linter.unusedVariables false
set_option linter.unusedSimpArgs false

/-- A number's text. -/
noncomputable def tx (x : Int) : ByteArray := if sg x then bytesOfInts [45] ++ dec (ab x) else dec (ab x)

theorem sg_pos (x : Int) : (sg x && decide (0 < ab x)) = sg x := by
  rcases sg_cases x with ⟨a1, a2, a3⟩ | ⟨a1, a2, a3⟩ <;> rw [a1]
  · rw [decide_eq_true (by omega)]; rfl
  · rfl
theorem text_told {N : Nat} (hN : 1000000001 < N) {x : Int} (h : Zr x) : zint_Int_Text.f N (sg x) (pB x) = some (tx x) ∧ parquetref02_Text.f N (sg x) (pH x) = some (tx x) := by
  obtain ⟨t, h1, h2, h3⟩ := text2 hN (sg x) h
  rw [sg_pos] at h1 h2 h3
  subst h3
  exact ⟨h1, h2⟩

theorem byteAt_app (d : ByteArray) : byteAt (bytesOfInts [45] ++ d) 0 = 45 ∧ (bytesOfInts [45] ++ d).size = d.size + 1 ∧ (bytesOfInts [45] ++ d).extract 1 (bytesOfInts [45] ++ d).size = d := by
  have hb : ∀ x ∈ [45] ++ intsOfBytes d, (0 : Int) ≤ x ∧ x < 256 := fun x hx => by
    rcases List.mem_append.mp hx with hx | hx
    · simp at hx; omega
    · obtain ⟨i, hi, rfl⟩ := List.getElem_of_mem hx
      have := byte_bound d i
      rw [byteAt_eq, List.getD_eq_getElem?_getD, List.getElem?_eq_getElem hi] at this
      exact this
  have e : bytesOfInts [45] ++ d = bytesOfInts ([45] ++ intsOfBytes d) := by
    rw [← bytes_append, bytes_ints]
  have hi : intsOfBytes (bytesOfInts [45] ++ d) = [45] ++ intsOfBytes d := by rw [e, ints_bytes hb]
  refine ⟨?_, ?_, ?_⟩
  · rw [byteAt_eq, hi]; rfl
  · rw [e, bytes_size, List.length_append, ints_len]; simp; omega
  · apply ints_inj
    rw [extract_ints, hi]
    rfl

/-- A number's text is read as the number. -/
theorem parse_tx {N : Nat} (hN : 1000000001 < N) {x : Int} (h : Zr x) : zint_Parse.f N (tx x) = some (sg x, pB x, 0) := by
  have hd := parse_dec hN h
  obtain ⟨⟨n1, n2, n3⟩, n4⟩ := num_dec (ab_nonneg x)
  have hne2 : ∀ d : ByteArray, AllD (intsOfBytes d) → d ≠ str2 := fun d hd' e => by
    have := hd' 45 (by rw [e, mnought_str, ints_bytes (by simp)]; simp)
    omega
  have hs := dec_size h.lo h.hi
  unfold tx
  rcases sg_cases x with ⟨a1, a2, a3⟩ | ⟨a1, a2, a3⟩
  · rw [a1, if_pos rfl]
    obtain ⟨b1, b2, b3⟩ := byteAt_app (dec (ab x))
    have hnz : bytesOfInts [45] ++ dec (ab x) ≠ str2 := fun e => by
      have e2 : intsOfBytes ((bytesOfInts [45] ++ dec (ab x)).extract 1 (bytesOfInts [45] ++ dec (ab x)).size) = [48] := by
        rw [extract_ints, e, mnought_str, ints_bytes (by simp)]; rfl
      rw [b3] at e2
      rw [e2] at n4
      have : pv [48] = 0 := by decide
      omega
    generalize bytesOfInts [45] ++ dec (ab x) = s at *
    have c1 : decide ((s.size : Int) > 0) = true := decide_eq_true (by omega)
    have c2 : decide (0 < (s.size : Int)) = true := decide_eq_true (by omega)
    have c3 : ((decide (1 ≤ (s.size : Int)) && decide ((s.size : Int) ≤ (s.size : Int))) && decide ((s.size : Int) ≤ (s.size : Int))) = true := by
      rw [decide_eq_true (show 1 ≤ (s.size : Int) by omega), decide_eq_true (show (s.size : Int) ≤ (s.size : Int) by omega)]; rfl
    have c4 : ((45 : Int) == 45) = true := rfl
    have et : (s.size : Int).toNat = s.size := by omega
    unfold zint_Parse.f
    rw [c1, b1, c4, c3, et, b3, toList_beq, decide_eq_false hnz]
    simp only [cond_true, cond_false]
    rw [hd]
    have c5 : ((0 : Int) != 0) = false := rfl
    simp only [Option.bind_some, c5, cond_false]
    rw [z_make _ h]
    simp only [Option.bind_some]
    have e : sv true (ab x) = x := by rw [← a1]; exact sv_sg x
    rw [e, a1]
  · have e1 : ¬ (false = true) := by decide
    rw [a1, if_neg e1]
    have hne := hne2 _ n3
    have b0 : byteAt (dec (ab x)) 0 ≠ 45 := by
      rw [byteAt_eq]
      have hl := ints_len (dec (ab x))
      have := AllD.get n3 (i := 0) (by omega)
      omega
    generalize dec (ab x) = s at *
    have c1 : decide ((s.size : Int) > 0) = true := decide_eq_true (by omega)
    have c2 : decide (0 < (s.size : Int)) = true := decide_eq_true (by omega)
    have c4 : (byteAt s 0 == 45) = false := beq_eq_false_iff_ne.mpr b0
    unfold zint_Parse.f
    rw [c1, c4, toList_beq, decide_eq_false hne]
    simp only [cond_true, cond_false]
    rw [hd]
    have c5 : ((0 : Int) != 0) = false := rfl
    simp only [Option.bind_some, c5, cond_false]
    rw [z_make _ h]
    simp only [Option.bind_some]
    have e : sv false (ab x) = x := by rw [← a1]; exact sv_sg x
    rw [e, a1]

theorem beq_same (s : ByteArray) : (s.toList == s.toList) = true := beq_self_eq_true _

theorem made_model {N : Nat} (hN : 1000000001 < N) {x : Int} (h : Zr x) : parquetlaw02_Made.f N (sg x) (pH x) = some (sg x, pB x, true) := by
  obtain ⟨t1, t2⟩ := text_told hN h
  unfold parquetlaw02_Made.f
  rw [t2]
  simp only [Option.bind_some]
  rw [parse_tx hN h]
  have c5 : ((0 : Int) == 0) = true := rfl
  simp only [Option.bind_some, c5, cond_true]
  rw [t1]
  simp only [Option.bind_some, beq_same]

theorem wf_u16 {n : Int} (h : (Lit.int .u16 n).wf = true) : 0 ≤ n ∧ n < 65536 := by
  simp [Lit.wf, IntKind.min, IntKind.max, IntKind.bits, IntKind.signed] at h
  omega

theorem copy_loop (N : Nat) {R : Type} (x4 : Bool) (l : List Int) (hd : Dig (65536 : Int) l) (x6 : Bool) (K0 : Bool → List Int → Bool → List Int → Option R) : ∀ (n i : Nat), i ≤ l.length → i ≤ 256 → 256 - i < n → parquetlaw02_Of.l3 N n (i : Int) x4 l x6 (l.take i) K0 = K0 x4 l x6 (l.take 256) := by
  intro n
  induction n with
  | zero => intro i _ _ h; omega
  | succ n ih =>
    intro i hi h256 hn
    rw [parquetlaw02_Of.l3]
    by_cases h1 : i < l.length
    · have c1 : decide ((i : Int) < (l.length : Int)) = true := decide_eq_true (by omega)
      rw [c1]
      simp only [cond_true]
      by_cases h2 : i < 256
      · have c2 : decide ((i : Int) < 256) = true := decide_eq_true (by omega)
        have c3 : decide (0 ≤ (i : Int)) = true := decide_eq_true (by omega)
        have e1 : wi64 ((i : Int) + 1) = ((i + 1 : Nat) : Int) := by rw [wi64_id (by omega) (by omega)]; omega
        have e2 : (i : Int).toNat = i := by omega
        have hg := hd.get (by decide) i
        have e3 : l.take i ++ [wu32 (l.getD i 0)] = l.take (i + 1) := by
          rw [wu32_id hg.1 (by omega), List.take_add_one, List.getD_eq_getElem?_getD, List.getElem?_eq_getElem h1]
          rfl
        have c4 : roomy ((l.take i).length + 1) 4 = true := roomy4 (by rw [List.length_take]; omega)
        rw [c2, c3, c4, e1, e2, e3]
        exact ih (i + 1) (by omega) (by omega) (by omega)
      · have h3 : i = 256 := by omega
        subst h3
        have c2 : decide (((256 : Nat) : Int) < 256) = false := by decide
        rw [c2]; rfl
    · have c1 : decide ((i : Int) < (l.length : Int)) = false := decide_eq_false (by omega)
      have e : l.take i = l.take 256 := by rw [List.take_of_length_le (by omega), List.take_of_length_le (by omega)]
      rw [c1, e]; rfl

theorem trim_loop (N : Nat) {R : Type} (x18 : Bool) (x19 : List Int) (x20 : Bool) (l : List Int) (m : Nat) (hm : m ≤ 1000) (k : Nat → Nat → Bool → List Int → Bool → List Int → Option R) : ∀ (n i : Nat), i ≤ m → i < n → parquetlaw02_Of.l6 N n 0 i x18 x19 x20 l k = k 0 (cutN l i) x18 x19 x20 l := by
  intro n
  induction n with
  | zero => intro i _ h; omega
  | succ n ih =>
    intro i hi hn
    rw [parquetlaw02_Of.l6]
    cases i with
    | zero => rfl
    | succ i =>
      have e1 : wi64 (((i + 1 : Nat) : Int) - 1) = (i : Int) := by rw [wi64_id (by omega) (by omega)]; omega
      have c0 : decide (((i + 1 : Nat) : Int) > 0) = true := decide_eq_true (by omega)
      have c1 : (decide (0 ≤ (i : Int)) && decide ((i : Int) < ((i + 1 : Nat) : Int))) = true := by simp; omega
      have c2 : ((decide (0 ≤ (i : Int)) && decide ((i : Int) ≤ ((i + 1 : Nat) : Int))) && decide (((i + 1 : Nat) : Int) ≤ ((i + 1 : Nat) : Int))) = true := by simp; omega
      rw [e1, c1, c0, c2]
      simp only [cond_true]
      have e3 : (i : Int).toNat = i := by omega
      have e2 : 0 + i = i := by omega
      rw [e3, e2]
      unfold cutN
      by_cases hz : l.getD i 0 = 0
      · rw [if_pos hz]
        have : (l.getD i 0 == 0) = true := by simpa using hz
        rw [this]
        exact ih i (by omega) (by omega)
      · rw [if_neg hz]
        have : (l.getD i 0 == 0) = false := by simpa using hz
        rw [this]; rfl

/-- The number that is handed in. -/
def big (b : Bool) (l : List Int) : Int := sv b (nv (65536 : Int) (l.take 256))

theorem big_zr (b : Bool) {l : List Int} (hd : Dig (65536 : Int) l) : Zr (big b l) := by
  have h := nv_bound (show (0 : Int) < 65536 by decide) (hd.take 256)
  have hl : (l.take 256).length ≤ 256 := by rw [List.length_take]; omega
  have hp := hpow_mono hl
  rw [← K_H] at hp
  refine zr_of ?_
  unfold big
  rw [ab_sv _ h.1]; omega

/-- Handed in with few digits only. -/
theorem big_lt (b : Bool) {l : List Int} (hd : Dig (65536 : Int) l) {k : Nat} (hk : l.length ≤ k) : ab (big b l) < (65536 : Int) ^ k := by
  have h := nv_bound (show (0 : Int) < 65536 by decide) (hd.take 256)
  have hl : (l.take 256).length ≤ k := by rw [List.length_take]; omega
  have hp := hpow_mono hl
  unfold big
  rw [ab_sv _ h.1]; omega

theorem of_big {N : Nat} (hN : 1000000001 < N) (b : Bool) {l : List Int} (hd : Dig (65536 : Int) l) : parquetlaw02_Of.f N b l = some (sg (big b l), pH (big b l)) := by
  unfold parquetlaw02_Of.f
  have c := copy_loop N b l hd false (fun y12 y13 y14 y15 =>
      parquetlaw02_Of.l6 N N 0 y15.length y12 y13 y14 y15
        (fun y28 y29 y30 y31 y32 y33 =>
          (parquetref02_Make.f N y30 ((y33.drop y28).take y29)).bind fun r34 =>
          some (r34.1, r34.2))) N 0 (by omega) (by omega) (by omega)
  rw [show ((0 : Nat) : Int) = 0 from rfl, List.take_zero] at c
  rw [c]
  have hl : (l.take 256).length ≤ 256 := by rw [List.length_take]; omega
  rw [trim_loop N b l false (l.take 256) 256 (by omega) _ N (l.take 256).length (by omega) (by omega)]
  have hdt := hd.take 256
  have e : ((l.take 256).drop 0).take (cutN (l.take 256) (l.take 256).length) = enc (65536 : Int) (nv (65536 : Int) (l.take 256)) := by
    rw [← cutH_enc hdt]; rfl
  have h := nv_bound (show (0 : Int) < 65536 by decide) hdt
  rw [e, r_make hN b h.1 (by rw [← e]; rw [List.length_take, List.drop_zero]; omega)]
  rfl

/-- The answer is the document's: a number, or too long. -/
theorem is_model {N : Nat} (hN : 1000000001 < N) {k : Nat} {x : Int} (h : Zl k x) (hk : k ≤ 100000) : parquetlaw02_is.f N (sg (zo x)) (pB (zo x)) (ze x) (sg x) (pH x) = some true := by
  unfold parquetlaw02_is.f
  rw [r_long hN h hk]
  simp only [Option.bind_some]
  by_cases hx : ab x < K
  · have zx := zr_of hx
    obtain ⟨t1, t2⟩ := text_told hN zx
    have c5 : ((0 : Int) == 0) = true := rfl
    rw [zo_id zx, ze_id zx, decide_eq_true hx]
    simp only [Bool.not_true, cond_false, c5, cond_true]
    rw [t1, t2]
    simp only [Option.bind_some, beq_same, cond_true]
    rw [z_sign zx, r_sign hN h (by omega)]
    simp
  · have e1 : zo x = 0 := if_neg hx
    have e2 : ze x = 3 := if_neg hx
    have c5 : ((3 : Int) == 3) = true := rfl
    rw [e1, e2, decide_eq_false hx]
    simp only [Bool.not_false, c5, cond_true]
    rw [z_sign zr_zero]
    have c6 : (sn 0 == 0) = true := rfl
    simp only [Option.bind_some, c6, cond_true]
    rw [pB_zero, sg_zero]
    have e3 : zint_Int_Text.f N false [] = some str1 := rfl
    rw [e3]
    simp only [Option.bind_some, beq_same]
theorem is_num {N : Nat} (hN : 1000000001 < N) {x : Int} (h : Zr x) : parquetlaw02_is.f N (sg x) (pB x) 0 (sg x) (pH x) = some true := by
  have := is_model hN (zl_of h) (by omega)
  rw [zo_id h, ze_id h] at this
  exact this

theorem ZintSums (b1 : Bool) (l1 : List Int) (b2 : Bool) (l2 : List Int) (w1 : ∀ x ∈ l1, (Lit.int .u16 x).wf = true) (w2 : ∀ x ∈ l2, (Lit.int .u16 x).wf = true) : ∃ N, parquetlaw02_ZintSums.f N b1 l1 b2 l2 = some true := by
  refine ⟨8589934700, ?_⟩
  have hN : 1000000001 < 8589934700 := by decide
  have hw := works2
  generalize 8589934700 = N at *
  have d1 : Dig (65536 : Int) l1 := fun x hx => wf_u16 (w1 x hx)
  have d2 : Dig (65536 : Int) l2 := fun x hx => wf_u16 (w2 x hx)
  have zx := big_zr b1 d1
  have zy := big_zr b2 d2
  unfold parquetlaw02_ZintSums.f
  rw [of_big hN b1 d1]
  simp only [Option.bind_some]
  rw [of_big hN b2 d2]
  simp only [Option.bind_some]
  generalize big b1 l1 = x at *
  generalize big b2 l2 = y at *
  have lx := zl_of zx
  have ly := zl_of zy
  obtain ⟨t1, t2⟩ := text_told hN zx
  obtain ⟨t3, t4⟩ := text_told hN zy
  rw [made_model hN zx]
  simp only [Option.bind_some]
  rw [made_model hN zy]
  simp only [Option.bind_some, Bool.not_true, cond_false]
  rw [z_add hN zx zy]
  simp only [Option.bind_some]
  rw [z_sub hN zx zy]
  simp only [Option.bind_some]
  rw [z_mul hN zx zy]
  simp only [Option.bind_some]
  rw [z_neg zx]
  simp only [Option.bind_some]
  rw [r_add hN lx ly (by omega)]
  simp only [Option.bind_some]
  rw [is_model hN (lx.add ly) (by omega)]
  simp only [Option.bind_some, cond_true]
  rw [r_sub hN lx ly (by omega)]
  simp only [Option.bind_some]
  rw [is_model hN (lx.sub ly) (by omega)]
  simp only [Option.bind_some, cond_true]
  rw [r_mul hN lx ly (by omega) (by omega)]
  simp only [Option.bind_some]
  rw [is_model hN (lx.mul ly) (by omega)]
  simp only [Option.bind_some, cond_true]
  rw [r_neg hN lx (by omega)]
  simp only [Option.bind_some]
  rw [is_num hN (zr_neg zx)]
  simp only [Option.bind_some, cond_true]
  rw [z_cmp hN zx zy]
  simp only [Option.bind_some]
  rw [r_cmp hN lx ly (by omega)]
  have cc : (cmp x y == cmp x y) = true := beq_self_eq_true _
  simp only [Option.bind_some, cc, cond_true]
  rw [t1, t2, t3, t4, hw]
  simp only [Option.bind_some, beq_same, cond_true]

theorem ZintQuos (b1 : Bool) (l1 : List Int) (b2 : Bool) (l2 : List Int) (w1 : ∀ x ∈ l1, (Lit.int .u16 x).wf = true) (w2 : ∀ x ∈ l2, (Lit.int .u16 x).wf = true) : ∃ N, parquetlaw02_ZintQuos.f N b1 l1 b2 l2 = some true := by
  refine ⟨8589934700, ?_⟩
  have hN : 1000000001 < 8589934700 := by decide
  have hw := works2
  generalize 8589934700 = N at *
  have d1 : Dig (65536 : Int) l1 := fun x hx => wf_u16 (w1 x hx)
  have d2 : Dig (65536 : Int) l2 := fun x hx => wf_u16 (w2 x hx)
  have zx := big_zr b1 d1
  have zy := big_zr b2 d2
  unfold parquetlaw02_ZintQuos.f
  rw [of_big hN b1 d1]
  simp only [Option.bind_some]
  rw [of_big hN b2 d2]
  simp only [Option.bind_some]
  generalize big b1 l1 = x at *
  generalize big b2 l2 = y at *
  have lx := zl_of zx
  have ly := zl_of zy
  rw [made_model hN zx]
  simp only [Option.bind_some]
  rw [made_model hN zy]
  simp only [Option.bind_some, Bool.not_true, cond_false]
  have s0 : zint_Int_Sign.f N false [] = some 0 := by
    have := z_sign (N := N) zr_zero
    rw [sg_zero, pB_zero] at this
    exact this
  have c0 : ((0 : Int) == 0) = true := rfl
  have c11 : ((11 : Int) == 11) = true := rfl
  have c2 : ((2 : Int) == 2) = true := rfl
  by_cases hy : y = 0
  · subst hy
    rw [z_quo0 hN zx]
    simp only [Option.bind_some]
    rw [z_exact0 hN zx]
    simp only [Option.bind_some]
    rw [r_zero hN ly (by omega), decide_eq_true rfl]
    simp only [Option.bind_some, cond_true, c11]
    rw [s0]
    simp only [Option.bind_some, cond_true, c0]
    rw [hw]
    rfl
  · obtain ⟨q1, q2, q3⟩ := z_quo hN zx zy hy
    obtain ⟨q4, q5, q6⟩ := r_quo hN lx ly (by omega) (by omega) hy
    rw [q1]
    simp only [Option.bind_some]
    rw [z_exact hN zx zy hy]
    simp only [Option.bind_some]
    rw [r_zero hN ly (by omega), decide_eq_false hy]
    simp only [Option.bind_some, cond_false]
    rw [q4]
    simp only [Option.bind_some]
    rw [is_num hN q2]
    simp only [Option.bind_some, Bool.not_true, cond_false]
    rw [is_num hN q3]
    simp only [Option.bind_some, Bool.not_true, cond_false]
    rw [r_zero hN q6 (by omega)]
    simp only [Option.bind_some]
    by_cases hr : x % y = 0
    · rw [if_pos hr, decide_eq_true hr]
      simp only [Bool.not_true, cond_false]
      rw [is_num hN q2]
      simp only [Option.bind_some, cond_true]
      rw [hw]
      rfl
    · rw [if_neg hr, decide_eq_false hr]
      simp only [Bool.not_false, cond_true, c2]
      rw [s0]
      simp only [Option.bind_some, cond_true, c0]
      rw [hw]
      rfl

end Go.Proofs.Ytndhfopllmbjhaa.Pure
