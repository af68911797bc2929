/-
  The evaluator's operations, eighth part: slicing, conversions, rows made and grown. (A text of ours; no condition.)
-/
import Derived.Test.YtnjlpjdncejfcaaEvOps8
namespace Go.Proofs.Ytnjlpjdncejfcaa.Ev
set_option linter.unusedVariables false
set_option linter.unusedSimpArgs false

section
variable {P : Program} {F : Nat → Prop} {ρ : Rho} {h : Nat → Blk} {w : World} {nid : Nat} {ty : Nat → Option TI} {ev : Operand → V} {ae : Operand → Value} {out : Out} {M : Nat → Prop}

theorem byte_get (s : ByteArray) (i : Nat) (hi : i < s.size) : s[i]? = some s[i] ∧ (s[i].toNat : Int) = byteAt s i := by
  refine ⟨by simp [hi], ?_⟩
  unfold byteAt
  have : s.data.toList.getD i 0 = s[i] := by
    have h1 : i < s.data.toList.length := by simpa using hi
    rw [List.getD_eq_getElem?_getD, List.getElem?_eq_getElem h1]
    rfl
  rw [this]

theorem indexOf_ok (hty : TyOK P ty) {t : Nat} {x i : V} {vx vi : Value} {out : Out} (hx : Rel ρ M w x vx) (hi : Rel ρ M w i vi) (hb : indexOf ty t x i = some (true, out)) :
    ∃ y v, out = { val := y } ∧ (Instr.index t vx vi).run P w = .ok v w ∧ Rel ρ M w y v := by
  unfold indexOf at hb
  split at hb
  · rename_i ki n s0 b0 z0 s ht
    have := hi.int; subst this
    have := hx.c; subst this
    have hu := (hty _ _ ht).tk
    simp only [tkOK] at hu
    obtain ⟨hok, hout⟩ := pureIf_out hb
    obtain ⟨g0, g1⟩ := two_true hok
    have g0 : 0 ≤ n := by simpa using g0
    have g1 : n < (s.size : Int) := by simpa using g1
    obtain ⟨h1, h2⟩ := byte_get s n.toNat (by omega)
    refine ⟨_, _, hout, ?_, Rel.of_c _⟩
    simp only [Instr.index, asIntOf, Sem.run_bind, Sem.run_pure, Result.andThen_ok, run_underlying hu, if_pos g0, h1, h2]
  · rename_i ki n len e s0 b0 z0 cs ht
    have := hi.int; subst this
    have hu := (hty _ _ ht).tk
    simp only [tkOK] at hu
    simp only [Rel] at hx
    obtain ⟨xs, rfl, hx⟩ := hx
    split at hb
    · cases hb
    · rename_i te hte
      split at hb
      · cases hb
      · rename_i r hr
        obtain ⟨h0, hb⟩ := cond_some hb
        obtain ⟨hok, hout⟩ := pureIf_out hb
        obtain ⟨g0, g1⟩ := two_true hok
        have g0 : 0 ≤ n := by simpa using g0
        have g1 : n < (len : Int) := by simpa using g1
        obtain ⟨v, c1, c2⟩ := part_ok (hty _ _ hte) (blt_lt h0) hx hr
        refine ⟨_, v, hout, ?_, c2⟩
        simp only [Instr.index, asIntOf, Sem.run_bind, Sem.run_pure, Result.andThen_ok, run_underlying hu, if_pos (And.intro g0 g1), (hty _ _ hte).sizeOf, c1]
  · cases hb

theorem run_sliceBound {k : IntKind} {i : Int} {y : Nat} (code : BoundsCode) (h0 : 0 ≤ i) (h1 : i ≤ (y : Int)) : (Instr.sliceBound (.int k i) y code).run P w = .ok i.toNat w := by
  simp only [Instr.sliceBound, asIntOf, Sem.run_bind, Sem.run_pure, Result.andThen_ok, if_pos (And.intro h0 h1)]

def OptRel (ρ : Rho) (M : Nat → Prop) (w : World) : Option V → Option Value → Prop
  | none, none => True
  | some x, some v => Rel ρ M w x v
  | _, _ => False

theorem OptRel.of {x : Option Operand} (he : ∀ x, Rel ρ M w (ev x) (ae x)) : OptRel ρ M w (x.map ev) (x.map ae) := by
  cases x with
  | none => trivial
  | some x => exact he x

theorem bnd_cases {x : Option V} {v : Option Value} {d i : Int} (hx : bnd x d = some i) (hr : OptRel ρ M w x v) : (x = none ∧ v = none ∧ i = d) ∨ ∃ k, x.isSome = true ∧ v = some (.int k i) := by
  unfold bnd at hx
  split at hx
  · simp only [Option.some.injEq] at hx
    cases v with
    | none => exact .inl ⟨rfl, rfl, hx.symm⟩
    | some v => exact hr.elim
  · simp only [Option.some.injEq] at hx
    subst hx
    cases v with
    | none => exact hr.elim
    | some v =>
      have hr' : Rel ρ M w _ v := hr
      have := Rel.int hr'
      subst this
      exact .inr ⟨_, rfl, rfl⟩
  · cases hx

/-- The bounds of a slice expression. -/
theorem sliceBounds_ok {lo hi mx : Option V} {vlo vhi vmx : Option Value} {n cap : Nat} {l h' m : Int} (isS : Bool) (hlo : bnd lo 0 = some l) (hhi : bnd hi n = some h') (hmx : bnd mx n = some m)
    (rlo : OptRel ρ M w lo vlo) (rhi : OptRel ρ M w hi vhi) (rmx : OptRel ρ M w mx vmx)
    (hform : (hi.isNone && mx.isSome) = false) (h0 : 0 ≤ l) (h1 : l ≤ h') (h2 : h' ≤ m) (h3 : m ≤ (n : Int)) (hlc : n ≤ cap) :
    ∃ m' : Nat, (Instr.sliceBounds isS n cap vlo vhi vmx).run P w = .ok (l.toNat, h'.toNat, m') w ∧ h'.toNat ≤ m' ∧ m' ≤ cap := by
  rcases bnd_cases hlo rlo with ⟨_, rfl, e1⟩ | ⟨k1, _, rfl⟩ <;> rcases bnd_cases hhi rhi with ⟨e5, rfl, e2⟩ | ⟨k2, _, rfl⟩ <;> rcases bnd_cases hmx rmx with ⟨_, rfl, e3⟩ | ⟨k3, e4, rfl⟩
  case inl.inl.inr => subst e5; simp [e4] at hform
  case inr.inl.inr => subst e5; simp [e4] at hform
  · exact ⟨cap, by simp [Instr.sliceBounds, e1, e2], by omega, Nat.le_refl _⟩
  · exact ⟨cap, by simp [Instr.sliceBounds, e1, run_sliceBound _ (show 0 ≤ h' by omega) (show h' ≤ (cap : Int) by omega)], by omega, Nat.le_refl _⟩
  · exact ⟨m.toNat, by simp [Instr.sliceBounds, e1, run_sliceBound _ (show 0 ≤ m by omega) (show m ≤ (cap : Int) by omega), run_sliceBound _ (show 0 ≤ h' by omega) (show h' ≤ (m.toNat : Int) by omega)], by omega, by omega⟩
  · exact ⟨cap, by simp [Instr.sliceBounds, e2, run_sliceBound _ h0 (show l ≤ (n : Int) by omega)], by omega, Nat.le_refl _⟩
  · exact ⟨cap, by simp [Instr.sliceBounds, run_sliceBound _ (show 0 ≤ h' by omega) (show h' ≤ (cap : Int) by omega), run_sliceBound _ h0 (show l ≤ (h'.toNat : Int) by omega)], by omega, Nat.le_refl _⟩
  · exact ⟨m.toNat, by simp [Instr.sliceBounds, run_sliceBound _ (show 0 ≤ m by omega) (show m ≤ (cap : Int) by omega), run_sliceBound _ (show 0 ≤ h' by omega) (show h' ≤ (m.toNat : Int) by omega), run_sliceBound _ h0 (show l ≤ (h'.toNat : Int) by omega)], by omega, by omega⟩

theorem four_true {a b c d : Bool} (h : (a && b && c && d) = true) : a = true ∧ b = true ∧ c = true ∧ d = true := by
  simp only [Bool.and_eq_true] at h; exact ⟨h.1.1.1, h.1.1.2, h.1.2, h.2⟩

theorem div_of_mul {n w : Nat} (hw : 0 < w) : n * w / w = n := Nat.mul_div_cancel n hw

theorem sliceV_ok (hty : TyOK P ty) (hh : HeapRel F ρ h w) {t : Nat} {x : V} {vx : Value} {lo hi mx : Option V} {vlo vhi vmx : Option Value} {out : Out} (hx : Rel ρ (av F (liveM ρ h)) w x vx)
    (rlo : OptRel ρ (av F (liveM ρ h)) w lo vlo) (rhi : OptRel ρ (av F (liveM ρ h)) w hi vhi) (rmx : OptRel ρ (av F (liveM ρ h)) w mx vmx) (hb : sliceV ty t x lo hi mx h = some (true, out)) :
    ∃ y tc v, out = { val := y, touch := tc } ∧ (Instr.sliceAt t vx vlo vhi vmx).run P w = .ok v w ∧ Rel ρ (av F (liveM ρ h)) w y v := by
  unfold sliceV at hb
  split at hb
  · cases hb
  rename_i ti ht
  have hu := (hty _ _ ht).tk
  cases hform : (hi.isNone && mx.isSome) with
  | true => simp [hform] at hb
  | false =>
  simp only [hform, cond_false] at hb
  split at hb
  · -- an array behind a pointer
    split at hb
    · rename_i n e id off ext htk hnl
      rw [htk] at hu
      simp only [tkOK] at hu
      split at hb
      · rename_i te l h' m hte hlo hhi hmx
        obtain ⟨hg, hb⟩ := cond_some hb
        obtain ⟨hg1, hg2⟩ := two_true hg
        obtain ⟨hok, hout⟩ := pureIf_out hb
        obtain ⟨o1, o2, o3, o4⟩ := four_true hok
        simp only [decide_eq_true_eq] at o1 o2 o3 o4
        have hle := ble_le hg1
        have hpos := blt_lt hg2
        simp only [Rel] at hx
        obtain ⟨b, nn, C, hp, hn, rfl⟩ := hx
        obtain ⟨m', r1, r2, r3⟩ := sliceBounds_ok (P := P) (cap := n) false hlo hhi hmx rlo rhi rmx hform o1 o2 o3 o4 (Nat.le_refl _)
        refine ⟨_, [], .slice (some (if m' = l.toNat then ⟨b, off, none⟩ else ⟨b, off + l.toNat * te.size, none⟩)) (h'.toNat - l.toNat) (m' - l.toNat), hout, ?_, ?_⟩
        · simp only [Instr.sliceAt, Sem.run_bind, run_underlying hu, Result.andThen_ok, Instr.sureAddr, Sem.run_pure, r1, (hty _ _ hte).sizeOf, addr_add]
        · simp only [Rel]
          refine ⟨hpos, ?_⟩
          by_cases hml : m' = l.toNat
          · right
            refine ⟨by omega, ?_⟩
            simp only [hml, if_true, Nat.sub_self]
            exact ⟨some ⟨b, off, none⟩, by congr 1; omega⟩
          · left
            refine ⟨b, nn, C, m' - l.toNat, hp, ?_, by omega, ?_, by simp only [if_neg hml, mulw_eq]⟩
            · rw [mulw_eq]
              have h1 : (h'.toNat - l.toNat) * te.size + l.toNat * te.size = h'.toNat * te.size := by rw [← Nat.add_mul]; congr 1; omega
              have h2 : h'.toNat * te.size ≤ n * te.size := Nat.mul_le_mul_right _ (by omega)
              omega
            · rw [mulw_eq]
              have h1 : (m' - l.toNat) * te.size + l.toNat * te.size = m' * te.size := by rw [← Nat.add_mul]; congr 1; omega
              have h2 : m' * te.size ≤ n * te.size := Nat.mul_le_mul_right _ r3
              have h3 := hh.wf _ _ hp
              dsimp only at h3
              omega
      · cases hb
    · cases hb
  · rename_i len tc hlen
    split at hb
    · rename_i l h' m hlo hhi hmx
      have kind : ∀ {ok : Bool}, ok = (decide (0 ≤ l) && decide (l ≤ h') && decide (h' ≤ m) && decide (m ≤ (len : Int))) → ok = true → 0 ≤ l ∧ l ≤ h' ∧ h' ≤ m ∧ m ≤ (len : Int) := by
        intro ok e hok
        rw [e] at hok
        obtain ⟨o1, o2, o3, o4⟩ := four_true hok
        simp only [decide_eq_true_eq] at o1 o2 o3 o4
        exact ⟨o1, o2, o3, o4⟩
      split at hb
      · -- a string
        rename_i s htk
        rw [htk] at hu
        simp only [tkOK] at hu
        have := hx.c; subst this
        simp only [lenV, Option.some.injEq, Prod.mk.injEq] at hlen
        obtain ⟨rfl, _⟩ := hlen
        split at hb
        · obtain ⟨hok, hout⟩ := pureIf_out hb
          obtain ⟨o1, o2, o3, o4⟩ := kind rfl hok
          obtain ⟨m', r1, r2, r3⟩ := sliceBounds_ok (P := P) (cap := s.size) false hlo hhi hmx rlo rhi rmx hform o1 o2 o3 o4 (Nat.le_refl _)
          cases vmx with
          | some v => exact rmx.elim
          | none =>
            refine ⟨_, [], _, hout, ?_, Rel.of_c _⟩
            simp only [Instr.sliceAt, Instr.slice, Sem.run_bind, run_underlying hu, Result.andThen_ok]
            simp [r1]
        · cases hb
      · -- a whole row
        rename_i e id s htk
        rw [htk] at hu
        simp only [tkOK] at hu
        split at hb
        · rename_i te hte
          obtain ⟨hw, hb⟩ := cond_some hb
          have hw := beq_eq hw
          simp only [Option.some.injEq, Prod.mk.injEq] at hb
          obtain ⟨hok, hout⟩ := hb
          obtain ⟨o1, o2, o3, o4⟩ := kind rfl hok
          obtain ⟨a, c, hv, hlc⟩ := lenV_slice hh hx hlen (by intro s h; cases h)
          have hx' := hx
          simp only [Rel] at hx
          obtain ⟨h0, ⟨b, n, C, cap, h1, h2, h3, h4, h5⟩ | ⟨h1, h2⟩⟩ := hx
          · rw [h5] at hv
            simp only [Value.slice.injEq] at hv
            obtain ⟨_, e1, e2⟩ := hv
            subst e1
            obtain ⟨m', r1, r2, r3⟩ := sliceBounds_ok (P := P) (cap := cap) true hlo hhi hmx rlo rhi rmx hform o1 o2 o3 o4 h3
            subst h5
            refine ⟨_, tc, .slice (if m' = l.toNat then some ⟨b, 0, none⟩ else some ⟨b, 0 + l.toNat * te.size, none⟩) (h'.toNat - l.toNat) (m' - l.toNat), hout.symm, ?_, ?_⟩
            · simp only [Instr.sliceAt, Instr.slice, Sem.run_bind, run_underlying hu, Result.andThen_ok, Sem.run_pure, r1, (hty _ _ hte).sizeOf, Option.map_some, addr_add]
            · simp only [Rel]
              refine ⟨h0, ?_⟩
              by_cases hml : m' = l.toNat
              · right
                exact ⟨by omega, some ⟨b, 0, none⟩, by simp only [hml, if_true, Nat.sub_self]; congr 1; omega⟩
              · left
                have hn : n / s * s = n := Nat.div_mul_cancel (Nat.dvd_of_mod_eq_zero h2)
                refine ⟨b, n, C, m' - l.toNat, h1, ?_, by omega, ?_, by simp only [if_neg hml, mulw_eq, hw, Nat.zero_add]⟩
                · rw [mulw_eq]
                  have h6 : (h'.toNat - l.toNat) * s + l.toNat * s = h'.toNat * s := by rw [← Nat.add_mul]; congr 1; omega
                  have h7 : h'.toNat * s ≤ n / s * s := Nat.mul_le_mul_right _ (by omega)
                  omega
                · rw [mulw_eq]
                  have h6 : (m' - l.toNat) * s + l.toNat * s = m' * s := by rw [← Nat.add_mul]; congr 1; omega
                  have h7 : m' * s ≤ cap * s := Nat.mul_le_mul_right _ r3
                  omega
          · subst h2
            simp only [Value.slice.injEq] at hv
            obtain ⟨_, e1, e2⟩ := hv
            subst e1
            obtain ⟨m', r1, r2, r3⟩ := sliceBounds_ok (P := P) (cap := 0) true hlo hhi hmx rlo rhi rmx hform o1 o2 o3 o4 (Nat.le_refl _)
            refine ⟨_, tc, .slice none 0 0, hout.symm, ?_, ?_⟩
            · have em : m' = 0 := by omega
              have el : l.toNat = 0 := by omega
              have eh : h'.toNat = 0 := by omega
              simp only [Instr.sliceAt, Instr.slice, Sem.run_bind, run_underlying hu, Result.andThen_ok, Sem.run_pure, r1, (hty _ _ hte).sizeOf, Option.map_none, em, el, eh]
              simp
            · simp only [Rel]
              exact ⟨h0, .inr ⟨by omega, none, rfl⟩⟩
        · cases hb
      · -- a piece of a row
        rename_i e id s off len' htk
        rw [htk] at hu
        simp only [tkOK] at hu
        split at hb
        · rename_i te hte
          obtain ⟨hw, hb⟩ := cond_some hb
          have hw := beq_eq hw
          obtain ⟨hok, hout⟩ := pureIf_out hb
          obtain ⟨o1, o2, o3, o4⟩ := kind rfl hok
          simp only [lenV, Option.some.injEq, Prod.mk.injEq] at hlen
          obtain ⟨rfl, _⟩ := hlen
          simp only [Rel] at hx
          obtain ⟨h0, ⟨b, n, C, cap, h1, h2, h3, h4, h5⟩ | ⟨h1, a, h2⟩⟩ := hx
          · obtain ⟨m', r1, r2, r3⟩ := sliceBounds_ok (P := P) (cap := cap) true hlo hhi hmx rlo rhi rmx hform o1 o2 o3 o4 h3
            subst h5
            refine ⟨_, [], .slice (if m' = l.toNat then some ⟨b, off, none⟩ else some ⟨b, off + l.toNat * te.size, none⟩) (h'.toNat - l.toNat) (m' - l.toNat), hout, ?_, ?_⟩
            · simp only [Instr.sliceAt, Instr.slice, Sem.run_bind, run_underlying hu, Result.andThen_ok, Sem.run_pure, r1, (hty _ _ hte).sizeOf, Option.map_some, addr_add]
            · simp only [Rel]
              refine ⟨h0, ?_⟩
              by_cases hml : m' = l.toNat
              · right
                exact ⟨by omega, some ⟨b, off, none⟩, by simp only [hml, if_true, Nat.sub_self]; congr 1; omega⟩
              · left
                refine ⟨b, n, C, m' - l.toNat, h1, ?_, by omega, ?_, by simp only [if_neg hml, mulw_eq, hw]⟩
                · rw [mulw_eq]
                  have h6 : (h'.toNat - l.toNat) * s + l.toNat * s = h'.toNat * s := by rw [← Nat.add_mul]; congr 1; omega
                  have h7 : h'.toNat * s ≤ len' * s := Nat.mul_le_mul_right _ (by omega)
                  omega
                · rw [mulw_eq]
                  have h6 : (m' - l.toNat) * s + l.toNat * s = m' * s := by rw [← Nat.add_mul]; congr 1; omega
                  have h7 : m' * s ≤ cap * s := Nat.mul_le_mul_right _ r3
                  omega
          · subst h1; subst h2
            obtain ⟨m', r1, r2, r3⟩ := sliceBounds_ok (P := P) (cap := 0) true hlo hhi hmx rlo rhi rmx hform o1 o2 o3 o4 (Nat.le_refl _)
            have em : m' = 0 := by omega
            have el : l.toNat = 0 := by omega
            have eh : h'.toNat = 0 := by omega
            refine ⟨_, [], .slice a 0 0, hout, ?_, ?_⟩
            · simp only [Instr.sliceAt, Instr.slice, Sem.run_bind, run_underlying hu, Result.andThen_ok, Sem.run_pure, r1, (hty _ _ hte).sizeOf, em, el, eh, if_true, Nat.sub_self]
            · simp only [Rel]
              exact ⟨h0, .inr ⟨by omega, a, rfl⟩⟩
        · cases hb
      · -- what is immutable
        rename_i e k s l0 htk
        rw [htk] at hu
        simp only [tkOK] at hu
        split at hb
        · rename_i te hte
          obtain ⟨hw, hb⟩ := cond_some hb
          have hw := beq_eq hw
          obtain ⟨hok, hout⟩ := pureIf_out hb
          obtain ⟨o1, o2, o3, o4⟩ := kind rfl hok
          simp only [lenV, cnt_eq, Option.some.injEq, Prod.mk.injEq] at hlen
          obtain ⟨rfl, _⟩ := hlen
          simp only [Rel] at hx
          obtain ⟨h0, hmod, ⟨h1, a, h2⟩ | ⟨b, o, cap, h2, h3, h4, h5, h6⟩⟩ := hx
          · subst h1; subst h2
            simp only [List.length_nil, Nat.zero_div] at *
            obtain ⟨m', r1, r2, r3⟩ := sliceBounds_ok (P := P) (cap := 0) true hlo hhi hmx rlo rhi rmx hform o1 o2 o3 o4 (Nat.le_refl _)
            have em : m' = 0 := by omega
            have el : l.toNat = 0 := by omega
            have eh : h'.toNat = 0 := by omega
            refine ⟨_, [], .slice a 0 0, hout, ?_, ?_⟩
            · simp only [Instr.sliceAt, Instr.slice, Sem.run_bind, run_underlying hu, Result.andThen_ok, Sem.run_pure, r1, (hty _ _ hte).sizeOf, em, el, eh, if_true, Nat.sub_self]
            · simp only [Rel]
              exact ⟨h0, by simp, .inl ⟨by simp, a, rfl⟩⟩
          · obtain ⟨m', r1, r2, r3⟩ := sliceBounds_ok (P := P) (cap := cap) true hlo hhi hmx rlo rhi rmx hform o1 o2 o3 o4 h3
            subst h2
            have hn : l0.length / s * s = l0.length := Nat.div_mul_cancel (Nat.dvd_of_mod_eq_zero hmod)
            have hl1 : (h'.toNat - l.toNat) * s + l.toNat * s = h'.toNat * s := by rw [← Nat.add_mul]; congr 1; omega
            have hl2 : h'.toNat * s ≤ l0.length / s * s := Nat.mul_le_mul_right _ (by omega)
            have hlen' : ((l0.drop (mulw s l.toNat)).take (mulw s (h'.toNat - l.toNat))).length = (h'.toNat - l.toNat) * s := by
              simp only [mulw_eq, List.length_take, List.length_drop]; omega
            refine ⟨_, [], .slice (if m' = l.toNat then some ⟨b, o, none⟩ else some ⟨b, o + l.toNat * te.size, none⟩) (h'.toNat - l.toNat) (m' - l.toNat), hout, ?_, ?_⟩
            · simp only [Instr.sliceAt, Instr.slice, Sem.run_bind, run_underlying hu, Result.andThen_ok, Sem.run_pure, r1, (hty _ _ hte).sizeOf, Option.map_some, addr_add]
            · simp only [Rel]
              refine ⟨h0, by rw [hlen']; exact Nat.mul_mod_left _ _, ?_⟩
              by_cases hml : m' = l.toNat
              · left
                have e0 : h'.toNat - l.toNat = 0 := by omega
                refine ⟨List.length_eq_zero_iff.mp (by rw [hlen', e0]; simp), some ⟨b, o, none⟩, by simp only [hml, if_true, Nat.sub_self]; congr 1⟩
              · right
                refine ⟨b, o + l.toNat * s, m' - l.toNat, by rw [hlen', div_of_mul h0, if_neg hml, hw], by rw [hlen', div_of_mul h0]; omega, h4, h5, fun j hj => ?_⟩
                rw [hlen'] at hj
                rw [Nat.add_assoc, h6 (l.toNat * s + j) (by omega)]
                simp only [mulw_eq, List.getD_eq_getElem?_getD, List.getElem?_take, if_pos hj, List.getElem?_drop]
        · cases hb
      · -- nil
        rename_i e htk
        rw [htk] at hu
        simp only [tkOK] at hu
        split at hb
        · rename_i te hte
          obtain ⟨hok, hout⟩ := pureIf_out hb
          obtain ⟨o1, o2, o3, o4⟩ := kind rfl hok
          simp only [lenV, Option.some.injEq, Prod.mk.injEq] at hlen
          obtain ⟨rfl, _⟩ := hlen
          have := hx.c; subst this
          obtain ⟨m', r1, r2, r3⟩ := sliceBounds_ok (P := P) (cap := 0) true hlo hhi hmx rlo rhi rmx hform o1 o2 o3 o4 (Nat.le_refl _)
          have em : m' = 0 := by omega
          have el : l.toNat = 0 := by omega
          have eh : h'.toNat = 0 := by omega
          refine ⟨_, [], .slice none 0 0, hout, ?_, Rel.of_c _⟩
          simp only [Instr.sliceAt, Instr.slice, Sem.run_bind, run_underlying hu, Result.andThen_ok, Sem.run_pure, r1, (hty _ _ hte).sizeOf, em, el, eh, if_true, Nat.sub_self]
        · cases hb
      · cases hb
    · cases hb

end
end Go.Proofs.Ytnjlpjdncejfcaa.Ev
