/-
  The evaluator's operations, eighth part: slicing, conversions, rows made and grown. (A text of ours; no condition.)
-/
import Derived.Test.YtlofhdoefjmabaaEvB
import Derived.Laws.BytesArg
import Derived.Lib.ConvBytes
import Derived.Laws.IdiomStrings
import Derived.MapKept
import Derived.WideKeyRuns
import Derived.Maps.RangeRun
namespace Go.Proofs.Ytlofhdoefjmabaa.Ev
set_option linter.unusedVariables false
set_option linter.unusedSimpArgs false

section
variable {P : Program} {F : Nat → Prop} {ρ : Rho} {h : Nat → Blk} {w : World} {nid : Nat} {ty : Nat → Option TI} {ev : Operand → V} {ae : Operand → Value} {out : Out} {M : Nat → Prop}

theorem byte_get (s : ByteArray) (i : Nat) (hi : i < s.size) : s[i]? = some s[i] ∧ (s[i].toNat : Int) = byteAt s i := by
  refine ⟨by simp [hi], ?_⟩
  unfold byteAt
  have : s.data.toList.getD i 0 = s[i] := by
    have h1 : i < s.data.toList.length := by simpa using hi
    rw [List.getD_eq_getElem?_getD, List.getElem?_eq_getElem h1]
    rfl
  rw [this]

theorem asInts_map : ∀ {k : IntKind} {cs : List V} {l : List Int}, asInts k cs = some l → cs = l.map (fun n => .c (.int k n))
  | k, [], l, h => by simp [asInts] at h; subst h; rfl
  | k, x :: r, l, h => by
    cases x with
    | c y =>
      cases y with
      | int k' n =>
        simp only [asInts] at h
        obtain ⟨hk, h1⟩ := cond_some h
        have hkk := keq_eq hk
        subst hkk
        simp only [Option.map_eq_some_iff] at h1
        obtain ⟨r', h2, rfl⟩ := h1
        rw [asInts_map h2]; rfl
      | _ => simp [asInts] at h
    | _ => simp [asInts] at h

theorem indexOf_ok (hty : TyOK P ty) {t : Nat} {x i : V} {vx vi : Value} {out : Out} (hx : Rel ρ M w x vx) (hi : Rel ρ M w i vi) (hb : indexOf ty t x i = some (true, out)) :
    ∃ y v, out = { val := y } ∧ (Instr.index t vx vi).run P w = .ok v w ∧ Rel ρ M w y v := by
  unfold indexOf at hb
  split at hb
  · rename_i ki n s0 b0 z0 s ht
    have := hi.int; subst this
    have := hx.c; subst this
    have hu := (hty _ _ ht).tk
    simp only [tkOK] at hu
    obtain ⟨hok, hout⟩ := pureIf_out hb
    obtain ⟨g0, g1⟩ := two_true hok
    have g0 : 0 ≤ n := by simpa using g0
    have g1 : n < (s.size : Int) := by simpa using g1
    obtain ⟨h1, h2⟩ := byte_get s n.toNat (by omega)
    refine ⟨_, _, hout, ?_, Rel.of_c _⟩
    simp only [Instr.index, asIntOf, Sem.run_bind, Sem.run_pure, Result.andThen_ok, run_underlying hu, if_pos g0, h1, h2]
  · rename_i ki n len e s0 b0 z0 cs ht
    have := hi.int; subst this
    have hu := (hty _ _ ht).tk
    simp only [tkOK] at hu
    simp only [Rel] at hx
    obtain ⟨xs, rfl, hx⟩ := hx
    split at hb
    · cases hb
    · rename_i te hte
      split at hb
      · rename_i k l hint
        obtain ⟨h0, hb⟩ := cond_some hb
        obtain ⟨h01, h02⟩ := two_true h0
        have h01 := beq_eq h01
        have h02 := beq_eq h02
        obtain ⟨hok, hout⟩ := pureIf_out hb
        obtain ⟨g0, g1⟩ := two_true hok
        have g0 : 0 ≤ n := by simpa using g0
        have g1 : n < (len : Int) := by simpa using g1
        unfold intElems at hint
        split at hint
        · rename_i k' htk
          split at hint
          · rename_i l' hl
            simp only [Option.some.injEq, Prod.mk.injEq] at hint
            obtain ⟨rfl, rfl⟩ := hint
            have hcs := asInts_map hl
            have hlt : n.toNat < l'.length := by omega
            have hr : takeV (dropV cs (n.toNat * te.size)) te.size = some [.c (.int k' (l'.getD n.toNat 0))] := by
              rw [h02, dropV_eq, Nat.mul_one, hcs, ← List.map_drop, List.drop_eq_getElem_cons hlt]
              simp only [List.map_cons, takeV, Option.map_some]
              simp [List.getD_eq_getElem?_getD, hlt]
            obtain ⟨v, c1, c2⟩ := part_ok (hty _ _ hte) (by omega) hx hr
            refine ⟨_, v, hout, ?_, ?_⟩
            · simp only [Instr.index, asIntOf, Sem.run_bind, Sem.run_pure, Result.andThen_ok, run_underlying hu, if_pos (And.intro g0 g1), (hty _ _ hte).sizeOf, c1]
            · have hag : te.isAgg = false := by unfold TI.isAgg; rw [htk]
              simpa only [packV, hag, cond_false] using c2
          · cases hint
        · cases hint
      split at hb
      · cases hb
      · rename_i r hr
        obtain ⟨h0, hb⟩ := cond_some hb
        obtain ⟨hok, hout⟩ := pureIf_out hb
        obtain ⟨g0, g1⟩ := two_true hok
        have g0 : 0 ≤ n := by simpa using g0
        have g1 : n < (len : Int) := by simpa using g1
        obtain ⟨v, c1, c2⟩ := part_ok (hty _ _ hte) (blt_lt h0) hx hr
        refine ⟨_, v, hout, ?_, c2⟩
        simp only [Instr.index, asIntOf, Sem.run_bind, Sem.run_pure, Result.andThen_ok, run_underlying hu, if_pos (And.intro g0 g1), (hty _ _ hte).sizeOf, c1]
  · cases hb

theorem run_sliceBound {k : IntKind} {i : Int} {y : Nat} (code : BoundsCode) (h0 : 0 ≤ i) (h1 : i ≤ (y : Int)) : (Instr.sliceBound (.int k i) y code).run P w = .ok i.toNat w := by
  simp only [Instr.sliceBound, asIntOf, Sem.run_bind, Sem.run_pure, Result.andThen_ok, if_pos (And.intro h0 h1)]

def OptRel (ρ : Rho) (M : Nat → Prop) (w : World) : Option V → Option Value → Prop
  | none, none => True
  | some x, some v => Rel ρ M w x v
  | _, _ => False

theorem OptRel.of {x : Option Operand} (he : ∀ x, Rel ρ M w (ev x) (ae x)) : OptRel ρ M w (x.map ev) (x.map ae) := by
  cases x with
  | none => trivial
  | some x => exact he x

theorem bnd_cases {x : Option V} {v : Option Value} {d i : Int} (hx : bnd x d = some i) (hr : OptRel ρ M w x v) : (x = none ∧ v = none ∧ i = d) ∨ ∃ k, x.isSome = true ∧ v = some (.int k i) := by
  unfold bnd at hx
  split at hx
  · simp only [Option.some.injEq] at hx
    cases v with
    | none => exact .inl ⟨rfl, rfl, hx.symm⟩
    | some v => exact hr.elim
  · simp only [Option.some.injEq] at hx
    subst hx
    cases v with
    | none => exact hr.elim
    | some v =>
      have hr' : Rel ρ M w _ v := hr
      have := Rel.int hr'
      subst this
      exact .inr ⟨_, rfl, rfl⟩
  · cases hx

/-- The bounds of a slice expression. -/
theorem sliceBounds_ok {lo hi mx : Option V} {vlo vhi vmx : Option Value} {n cap : Nat} {l h' m : Int} (isS : Bool) (hlo : bnd lo 0 = some l) (hhi : bnd hi n = some h') (hmx : bnd mx n = some m)
    (rlo : OptRel ρ M w lo vlo) (rhi : OptRel ρ M w hi vhi) (rmx : OptRel ρ M w mx vmx)
    (hform : (hi.isNone && mx.isSome) = false) (h0 : 0 ≤ l) (h1 : l ≤ h') (h2 : h' ≤ m) (h3 : m ≤ (n : Int)) (hlc : n ≤ cap) :
    ∃ m' : Nat, (Instr.sliceBounds isS n cap vlo vhi vmx).run P w = .ok (l.toNat, h'.toNat, m') w ∧ h'.toNat ≤ m' ∧ m' ≤ cap := by
  rcases bnd_cases hlo rlo with ⟨_, rfl, e1⟩ | ⟨k1, _, rfl⟩ <;> rcases bnd_cases hhi rhi with ⟨e5, rfl, e2⟩ | ⟨k2, _, rfl⟩ <;> rcases bnd_cases hmx rmx with ⟨_, rfl, e3⟩ | ⟨k3, e4, rfl⟩
  case inl.inl.inr => subst e5; simp [e4] at hform
  case inr.inl.inr => subst e5; simp [e4] at hform
  · exact ⟨cap, by simp [Instr.sliceBounds, e1, e2], by omega, Nat.le_refl _⟩
  · exact ⟨cap, by simp [Instr.sliceBounds, e1, run_sliceBound _ (show 0 ≤ h' by omega) (show h' ≤ (cap : Int) by omega)], by omega, Nat.le_refl _⟩
  · exact ⟨m.toNat, by simp [Instr.sliceBounds, e1, run_sliceBound _ (show 0 ≤ m by omega) (show m ≤ (cap : Int) by omega), run_sliceBound _ (show 0 ≤ h' by omega) (show h' ≤ (m.toNat : Int) by omega)], by omega, by omega⟩
  · exact ⟨cap, by simp [Instr.sliceBounds, e2, run_sliceBound _ h0 (show l ≤ (n : Int) by omega)], by omega, Nat.le_refl _⟩
  · exact ⟨cap, by simp [Instr.sliceBounds, run_sliceBound _ (show 0 ≤ h' by omega) (show h' ≤ (cap : Int) by omega), run_sliceBound _ h0 (show l ≤ (h'.toNat : Int) by omega)], by omega, Nat.le_refl _⟩
  · exact ⟨m.toNat, by simp [Instr.sliceBounds, run_sliceBound _ (show 0 ≤ m by omega) (show m ≤ (cap : Int) by omega), run_sliceBound _ (show 0 ≤ h' by omega) (show h' ≤ (m.toNat : Int) by omega), run_sliceBound _ h0 (show l ≤ (h'.toNat : Int) by omega)], by omega, by omega⟩

theorem four_true {a b c d : Bool} (h : (a && b && c && d) = true) : a = true ∧ b = true ∧ c = true ∧ d = true := by
  simp only [Bool.and_eq_true] at h; exact ⟨h.1.1.1, h.1.1.2, h.1.2, h.2⟩

theorem div_of_mul {n w : Nat} (hw : 0 < w) : n * w / w = n := Nat.mul_div_cancel n hw

theorem sliceV_ok (hty : TyOK P ty) (hh : HeapRel F ρ h w) {t : Nat} {x : V} {vx : Value} {lo hi mx : Option V} {vlo vhi vmx : Option Value} {out : Out} (hx : Rel ρ (av F (liveM ρ h)) w x vx)
    (rlo : OptRel ρ (av F (liveM ρ h)) w lo vlo) (rhi : OptRel ρ (av F (liveM ρ h)) w hi vhi) (rmx : OptRel ρ (av F (liveM ρ h)) w mx vmx) (hb : sliceV ty t x lo hi mx h = some (true, out)) :
    ∃ y tc v, out = { val := y, touch := tc } ∧ (Instr.sliceAt t vx vlo vhi vmx).run P w = .ok v w ∧ Rel ρ (av F (liveM ρ h)) w y v := by
  unfold sliceV at hb
  split at hb
  · cases hb
  rename_i ti ht
  have hu := (hty _ _ ht).tk
  cases hform : (hi.isNone && mx.isSome) with
  | true => simp [hform] at hb
  | false =>
  simp only [hform, cond_false] at hb
  split at hb
  · -- an array behind a pointer
    split at hb
    · rename_i n e id off ext htk hnl
      rw [htk] at hu
      simp only [tkOK] at hu
      split at hb
      · rename_i te l h' m hte hlo hhi hmx
        obtain ⟨hg, hb⟩ := cond_some hb
        obtain ⟨hg1, hg2⟩ := two_true hg
        obtain ⟨hok, hout⟩ := pureIf_out hb
        obtain ⟨o1, o2, o3, o4⟩ := four_true hok
        simp only [decide_eq_true_eq] at o1 o2 o3 o4
        have hle := ble_le hg1
        have hpos := blt_lt hg2
        simp only [Rel] at hx
        obtain ⟨b, nn, C, hp, hn, rfl⟩ := hx
        obtain ⟨m', r1, r2, r3⟩ := sliceBounds_ok (P := P) (cap := n) false hlo hhi hmx rlo rhi rmx hform o1 o2 o3 o4 (Nat.le_refl _)
        refine ⟨_, [], .slice (some (if m' = l.toNat then ⟨b, off, none⟩ else ⟨b, off + l.toNat * te.size, none⟩)) (h'.toNat - l.toNat) (m' - l.toNat), hout, ?_, ?_⟩
        · simp only [Instr.sliceAt, Sem.run_bind, run_underlying hu, Result.andThen_ok, Instr.sureAddr, Sem.run_pure, r1, (hty _ _ hte).sizeOf, addr_add]
        · simp only [Rel]
          refine ⟨hpos, ?_⟩
          by_cases hml : m' = l.toNat
          · right
            refine ⟨by omega, ?_⟩
            simp only [hml, if_true, Nat.sub_self]
            exact ⟨some ⟨b, off, none⟩, by congr 1; omega⟩
          · left
            refine ⟨b, nn, C, m' - l.toNat, hp, ?_, by omega, ?_, by simp only [if_neg hml, mulw_eq]⟩
            · rw [mulw_eq]
              have h1 : (h'.toNat - l.toNat) * te.size + l.toNat * te.size = h'.toNat * te.size := by rw [← Nat.add_mul]; congr 1; omega
              have h2 : h'.toNat * te.size ≤ n * te.size := Nat.mul_le_mul_right _ (by omega)
              omega
            · rw [mulw_eq]
              have h1 : (m' - l.toNat) * te.size + l.toNat * te.size = m' * te.size := by rw [← Nat.add_mul]; congr 1; omega
              have h2 : m' * te.size ≤ n * te.size := Nat.mul_le_mul_right _ r3
              have h3 := hh.wf _ _ hp
              dsimp only at h3
              omega
      · cases hb
    · cases hb
  · rename_i len tc hlen
    split at hb
    · rename_i l h' m hlo hhi hmx
      have kind : ∀ {ok : Bool}, ok = (decide (0 ≤ l) && decide (l ≤ h') && decide (h' ≤ m) && decide (m ≤ (len : Int))) → ok = true → 0 ≤ l ∧ l ≤ h' ∧ h' ≤ m ∧ m ≤ (len : Int) := by
        intro ok e hok
        rw [e] at hok
        obtain ⟨o1, o2, o3, o4⟩ := four_true hok
        simp only [decide_eq_true_eq] at o1 o2 o3 o4
        exact ⟨o1, o2, o3, o4⟩
      split at hb
      · -- a string
        rename_i s htk
        rw [htk] at hu
        simp only [tkOK] at hu
        have := hx.c; subst this
        simp only [lenV, Option.some.injEq, Prod.mk.injEq] at hlen
        obtain ⟨rfl, _⟩ := hlen
        split at hb
        · obtain ⟨hok, hout⟩ := pureIf_out hb
          obtain ⟨o1, o2, o3, o4⟩ := kind rfl hok
          obtain ⟨m', r1, r2, r3⟩ := sliceBounds_ok (P := P) (cap := s.size) false hlo hhi hmx rlo rhi rmx hform o1 o2 o3 o4 (Nat.le_refl _)
          cases vmx with
          | some v => exact rmx.elim
          | none =>
            refine ⟨_, [], _, hout, ?_, Rel.of_c _⟩
            simp only [Instr.sliceAt, Instr.slice, Sem.run_bind, run_underlying hu, Result.andThen_ok]
            simp [r1]
        · cases hb
      · -- a whole row
        rename_i e id s htk
        rw [htk] at hu
        simp only [tkOK] at hu
        split at hb
        · rename_i te hte
          obtain ⟨hw, hb⟩ := cond_some hb
          have hw := beq_eq hw
          simp only [Option.some.injEq, Prod.mk.injEq] at hb
          obtain ⟨hok, hout⟩ := hb
          obtain ⟨o1, o2, o3, o4⟩ := kind rfl hok
          obtain ⟨a, c, hv, hlc⟩ := lenV_slice hh hx hlen (by intro s h; cases h)
          have hx' := hx
          simp only [Rel] at hx
          obtain ⟨h0, ⟨b, n, C, cap, h1, h2, h3, h4, h5⟩ | ⟨h1, h2⟩⟩ := hx
          · rw [h5] at hv
            simp only [Value.slice.injEq] at hv
            obtain ⟨_, e1, e2⟩ := hv
            subst e1
            obtain ⟨m', r1, r2, r3⟩ := sliceBounds_ok (P := P) (cap := cap) true hlo hhi hmx rlo rhi rmx hform o1 o2 o3 o4 h3
            subst h5
            refine ⟨_, tc, .slice (if m' = l.toNat then some ⟨b, 0, none⟩ else some ⟨b, 0 + l.toNat * te.size, none⟩) (h'.toNat - l.toNat) (m' - l.toNat), hout.symm, ?_, ?_⟩
            · simp only [Instr.sliceAt, Instr.slice, Sem.run_bind, run_underlying hu, Result.andThen_ok, Sem.run_pure, r1, (hty _ _ hte).sizeOf, Option.map_some, addr_add]
            · simp only [Rel]
              refine ⟨h0, ?_⟩
              by_cases hml : m' = l.toNat
              · right
                exact ⟨by omega, some ⟨b, 0, none⟩, by simp only [hml, if_true, Nat.sub_self]; congr 1; omega⟩
              · left
                have hn : n / s * s = n := Nat.div_mul_cancel (Nat.dvd_of_mod_eq_zero h2)
                refine ⟨b, n, C, m' - l.toNat, h1, ?_, by omega, ?_, by simp only [if_neg hml, mulw_eq, hw, Nat.zero_add]⟩
                · rw [mulw_eq]
                  have h6 : (h'.toNat - l.toNat) * s + l.toNat * s = h'.toNat * s := by rw [← Nat.add_mul]; congr 1; omega
                  have h7 : h'.toNat * s ≤ n / s * s := Nat.mul_le_mul_right _ (by omega)
                  omega
                · rw [mulw_eq]
                  have h6 : (m' - l.toNat) * s + l.toNat * s = m' * s := by rw [← Nat.add_mul]; congr 1; omega
                  have h7 : m' * s ≤ cap * s := Nat.mul_le_mul_right _ r3
                  omega
          · subst h2
            simp only [Value.slice.injEq] at hv
            obtain ⟨_, e1, e2⟩ := hv
            subst e1
            obtain ⟨m', r1, r2, r3⟩ := sliceBounds_ok (P := P) (cap := 0) true hlo hhi hmx rlo rhi rmx hform o1 o2 o3 o4 (Nat.le_refl _)
            refine ⟨_, tc, .slice none 0 0, hout.symm, ?_, ?_⟩
            · have em : m' = 0 := by omega
              have el : l.toNat = 0 := by omega
              have eh : h'.toNat = 0 := by omega
              simp only [Instr.sliceAt, Instr.slice, Sem.run_bind, run_underlying hu, Result.andThen_ok, Sem.run_pure, r1, (hty _ _ hte).sizeOf, Option.map_none, em, el, eh]
              simp
            · simp only [Rel]
              exact ⟨h0, .inr ⟨by omega, none, rfl⟩⟩
        · cases hb
      · -- a piece of a row
        rename_i e id s off len' htk
        rw [htk] at hu
        simp only [tkOK] at hu
        split at hb
        · rename_i te hte
          obtain ⟨hw, hb⟩ := cond_some hb
          have hw := beq_eq hw
          obtain ⟨hok, hout⟩ := pureIf_out hb
          obtain ⟨o1, o2, o3, o4⟩ := kind rfl hok
          simp only [lenV, Option.some.injEq, Prod.mk.injEq] at hlen
          obtain ⟨rfl, _⟩ := hlen
          simp only [Rel] at hx
          obtain ⟨h0, ⟨b, n, C, cap, h1, h2, h3, h4, h5⟩ | ⟨h1, a, h2⟩⟩ := hx
          · obtain ⟨m', r1, r2, r3⟩ := sliceBounds_ok (P := P) (cap := cap) true hlo hhi hmx rlo rhi rmx hform o1 o2 o3 o4 h3
            subst h5
            refine ⟨_, [], .slice (if m' = l.toNat then some ⟨b, off, none⟩ else some ⟨b, off + l.toNat * te.size, none⟩) (h'.toNat - l.toNat) (m' - l.toNat), hout, ?_, ?_⟩
            · simp only [Instr.sliceAt, Instr.slice, Sem.run_bind, run_underlying hu, Result.andThen_ok, Sem.run_pure, r1, (hty _ _ hte).sizeOf, Option.map_some, addr_add]
            · simp only [Rel]
              refine ⟨h0, ?_⟩
              by_cases hml : m' = l.toNat
              · right
                exact ⟨by omega, some ⟨b, off, none⟩, by simp only [hml, if_true, Nat.sub_self]; congr 1; omega⟩
              · left
                refine ⟨b, n, C, m' - l.toNat, h1, ?_, by omega, ?_, by simp only [if_neg hml, mulw_eq, hw]⟩
                · rw [mulw_eq]
                  have h6 : (h'.toNat - l.toNat) * s + l.toNat * s = h'.toNat * s := by rw [← Nat.add_mul]; congr 1; omega
                  have h7 : h'.toNat * s ≤ len' * s := Nat.mul_le_mul_right _ (by omega)
                  omega
                · rw [mulw_eq]
                  have h6 : (m' - l.toNat) * s + l.toNat * s = m' * s := by rw [← Nat.add_mul]; congr 1; omega
                  have h7 : m' * s ≤ cap * s := Nat.mul_le_mul_right _ r3
                  omega
          · subst h1; subst h2
            obtain ⟨m', r1, r2, r3⟩ := sliceBounds_ok (P := P) (cap := 0) true hlo hhi hmx rlo rhi rmx hform o1 o2 o3 o4 (Nat.le_refl _)
            have em : m' = 0 := by omega
            have el : l.toNat = 0 := by omega
            have eh : h'.toNat = 0 := by omega
            refine ⟨_, [], .slice a 0 0, hout, ?_, ?_⟩
            · simp only [Instr.sliceAt, Instr.slice, Sem.run_bind, run_underlying hu, Result.andThen_ok, Sem.run_pure, r1, (hty _ _ hte).sizeOf, em, el, eh, if_true, Nat.sub_self]
            · simp only [Rel]
              exact ⟨h0, .inr ⟨by omega, a, rfl⟩⟩
        · cases hb
      · -- what is immutable
        rename_i e k s l0 htk
        rw [htk] at hu
        simp only [tkOK] at hu
        split at hb
        · rename_i te hte
          obtain ⟨hw, hb⟩ := cond_some hb
          have hw := beq_eq hw
          obtain ⟨hok, hout⟩ := pureIf_out hb
          obtain ⟨o1, o2, o3, o4⟩ := kind rfl hok
          simp only [lenV, cnt_eq, Option.some.injEq, Prod.mk.injEq] at hlen
          obtain ⟨rfl, _⟩ := hlen
          simp only [Rel] at hx
          obtain ⟨h0, hmod, ⟨h1, a, h2⟩ | ⟨b, o, cap, h2, h3, h4, h5, h6⟩⟩ := hx
          · subst h1; subst h2
            simp only [List.length_nil, Nat.zero_div] at *
            obtain ⟨m', r1, r2, r3⟩ := sliceBounds_ok (P := P) (cap := 0) true hlo hhi hmx rlo rhi rmx hform o1 o2 o3 o4 (Nat.le_refl _)
            have em : m' = 0 := by omega
            have el : l.toNat = 0 := by omega
            have eh : h'.toNat = 0 := by omega
            refine ⟨_, [], .slice a 0 0, hout, ?_, ?_⟩
            · simp only [Instr.sliceAt, Instr.slice, Sem.run_bind, run_underlying hu, Result.andThen_ok, Sem.run_pure, r1, (hty _ _ hte).sizeOf, em, el, eh, if_true, Nat.sub_self]
            · simp only [Rel]
              exact ⟨h0, by simp, .inl ⟨by simp, a, rfl⟩⟩
          · obtain ⟨m', r1, r2, r3⟩ := sliceBounds_ok (P := P) (cap := cap) true hlo hhi hmx rlo rhi rmx hform o1 o2 o3 o4 h3
            subst h2
            have hn : l0.length / s * s = l0.length := Nat.div_mul_cancel (Nat.dvd_of_mod_eq_zero hmod)
            have hl1 : (h'.toNat - l.toNat) * s + l.toNat * s = h'.toNat * s := by rw [← Nat.add_mul]; congr 1; omega
            have hl2 : h'.toNat * s ≤ l0.length / s * s := Nat.mul_le_mul_right _ (by omega)
            have hlen' : ((l0.drop (mulw s l.toNat)).take (mulw s (h'.toNat - l.toNat))).length = (h'.toNat - l.toNat) * s := by
              simp only [mulw_eq, List.length_take, List.length_drop]; omega
            refine ⟨_, [], .slice (if m' = l.toNat then some ⟨b, o, none⟩ else some ⟨b, o + l.toNat * te.size, none⟩) (h'.toNat - l.toNat) (m' - l.toNat), hout, ?_, ?_⟩
            · simp only [Instr.sliceAt, Instr.slice, Sem.run_bind, run_underlying hu, Result.andThen_ok, Sem.run_pure, r1, (hty _ _ hte).sizeOf, Option.map_some, addr_add]
            · simp only [Rel]
              refine ⟨h0, by rw [hlen']; exact Nat.mul_mod_left _ _, ?_⟩
              by_cases hml : m' = l.toNat
              · left
                have e0 : h'.toNat - l.toNat = 0 := by omega
                refine ⟨List.length_eq_zero_iff.mp (by rw [hlen', e0]; simp), some ⟨b, o, none⟩, by simp only [hml, if_true, Nat.sub_self]; congr 1⟩
              · right
                refine ⟨b, o + l.toNat * s, m' - l.toNat, by rw [hlen', div_of_mul h0, if_neg hml, hw], by rw [hlen', div_of_mul h0]; omega, h4, h5, fun j hj => ?_⟩
                rw [hlen'] at hj
                rw [Nat.add_assoc, h6 (l.toNat * s + j) (by omega)]
                simp only [mulw_eq, List.getD_eq_getElem?_getD, List.getElem?_take, if_pos hj, List.getElem?_drop]
        · cases hb
      · -- nil
        rename_i e htk
        rw [htk] at hu
        simp only [tkOK] at hu
        split at hb
        · rename_i te hte
          obtain ⟨hok, hout⟩ := pureIf_out hb
          obtain ⟨o1, o2, o3, o4⟩ := kind rfl hok
          simp only [lenV, Option.some.injEq, Prod.mk.injEq] at hlen
          obtain ⟨rfl, _⟩ := hlen
          have := hx.c; subst this
          obtain ⟨m', r1, r2, r3⟩ := sliceBounds_ok (P := P) (cap := 0) true hlo hhi hmx rlo rhi rmx hform o1 o2 o3 o4 (Nat.le_refl _)
          have em : m' = 0 := by omega
          have el : l.toNat = 0 := by omega
          have eh : h'.toNat = 0 := by omega
          refine ⟨_, [], .slice none 0 0, hout, ?_, Rel.of_c _⟩
          simp only [Instr.sliceAt, Instr.slice, Sem.run_bind, run_underlying hu, Result.andThen_ok, Sem.run_pure, r1, (hty _ _ hte).sizeOf, em, el, eh, if_true, Nat.sub_self]
        · cases hb
      · cases hb
    · cases hb

end
end Go.Proofs.Ytlofhdoefjmabaa.Ev

/-
  The evaluator's operations, ninth part: conversions, rows made, grown, copied. (A text of ours; no condition.)
-/
namespace Go.Proofs.Ytlofhdoefjmabaa.Ev
set_option linter.unusedVariables false
set_option linter.unusedSimpArgs false

section
variable {P : Program} {F : Nat → Prop} {ρ : Rho} {h : Nat → Blk} {w : World} {nid : Nat} {ty : Nat → Option TI} {ev : Operand → V} {ae : Operand → Value} {out : Out} {M : Nat → Prop}

/-- A slice of whole numbers that is read: its cells. -/
theorem rowOf_ok (hh : HeapRel F ρ h w) {x : V} {vx : Value} {k : IntKind} {s : Nat} {l : List Int} {tc : List Nat} (hx : Rel ρ (av F (liveM ρ h)) w x vx) (hr : rowOf h x = some (k, s, l, tc)) :
    0 < s ∧ ∃ a len cap, vx = .slice a len cap ∧ l.length = len * s ∧ len ≤ cap ∧ (l = [] ∨ ∃ b o, a = some ⟨b, o, none⟩ ∧ ∀ j, j < l.length → w.cell? ⟨b, o + j, none⟩ = some (.int k (l.getD j 0))) := by
  unfold rowOf at hr
  split at hr
  · rename_i id s'
    split at hr
    · rename_i k' l' hid
      simp only [Option.some.injEq, Prod.mk.injEq] at hr
      obtain ⟨rfl, rfl, rfl, _⟩ := hr
      obtain ⟨h0, ⟨b, n, C, cap, c, h1, h2, h3, h4, h5, ho, hsz, hold⟩ | ⟨h1, h2, hk⟩⟩ := sw_cells hh hx (by rw [hid]; trivial) (by rw [hid]; trivial)
      · rw [hid] at hold
        obtain ⟨e1, e2, e3⟩ := hold
        have hn : n / s' * s' = n := Nat.div_mul_cancel (Nat.dvd_of_mod_eq_zero h2)
        exact ⟨h0, _, _, _, h5, by omega, h3, .inr ⟨b, 0, rfl, fun j hj => by rw [Nat.zero_add, ho.cell]; exact e3 j hj⟩⟩
      · rw [hid] at hk
        rcases hk with ⟨k2, hk⟩ | hk | ⟨_, _, hk⟩ <;> cases hk
        exact ⟨h0, _, _, _, h2, by simp, Nat.le_refl _, .inl rfl⟩
    · cases hr
  · rename_i id s' off len
    split at hr
    · rename_i k' l' hid
      simp only [Option.some.injEq, Prod.mk.injEq] at hr
      obtain ⟨rfl, rfl, rfl, _⟩ := hr
      simp only [Rel] at hx
      obtain ⟨h0, ⟨b, n, C, cap, h1, h2, h3, h4, h5⟩ | ⟨h1, a, h2⟩⟩ := hx
      · obtain ⟨c, ho, hsz, hold⟩ := hh.own (by rw [hid]; trivial) (by rw [hid]; trivial) h1
        rw [hid] at hold
        obtain ⟨e1, e2, e3⟩ := hold
        have hl : ((l'.drop off).take (mulw s' len)).length = len * s' := by simp only [mulw_eq, List.length_take, List.length_drop]; omega
        refine ⟨h0, _, _, _, h5, hl, h3, .inr ⟨b, off, rfl, fun j hj => ?_⟩⟩
        rw [hl] at hj
        rw [ho.cell, e3 (off + j) (by omega)]
        simp only [mulw_eq, List.getD_eq_getElem?_getD, List.getElem?_take, if_pos hj, List.getElem?_drop]
      · subst h1
        refine ⟨h0, a, 0, 0, h2, by simp [mulw_eq], Nat.le_refl _, .inl (by simp [mulw_eq])⟩
    · cases hr
  · rename_i k' s' l'
    simp only [Option.some.injEq, Prod.mk.injEq] at hr
    obtain ⟨rfl, rfl, rfl, _⟩ := hr
    simp only [Rel] at hx
    obtain ⟨h0, h1, ⟨h2, a, h3⟩ | ⟨b, o, cap, h2, h3, _, _, h4⟩⟩ := hx
    · exact ⟨h0, a, 0, 0, h3, by rw [h2]; simp, Nat.le_refl _, .inl h2⟩
    · exact ⟨h0, _, _, _, h2, (Nat.div_mul_cancel (Nat.dvd_of_mod_eq_zero h1)).symm, h3, .inr ⟨b, o, rfl, h4⟩⟩
  · cases hr

theorem rowV_ok (hh : HeapRel F ρ h w) {x : V} {vx : Value} {s : Nat} {l : List V} {tc : List Nat} (hx : Rel ρ (av F (liveM ρ h)) w x vx) (hr : rowV h x = some (s, l, tc)) :
    0 < s ∧ ∃ a len cap cs, vx = .slice a len cap ∧ l.length = len * s ∧ len ≤ cap ∧ RelL ρ (av F (liveM ρ h)) w l cs ∧ (l = [] ∨ ∃ b o, a = some ⟨b, o, none⟩ ∧ ∀ j, j < l.length → w.cell? ⟨b, o + j, none⟩ = cs[j]?) := by
  unfold rowV at hr
  split at hr
  · rename_i id s'
    split at hr
    · rename_i l' hid
      simp only [Option.some.injEq, Prod.mk.injEq] at hr
      obtain ⟨rfl, rfl, _⟩ := hr
      obtain ⟨h0, ⟨b, n, C, cap, c, h1, h2, h3, h4, h5, ho, hsz, hold⟩ | ⟨h1, h2, hk⟩⟩ := sw_cells hh hx (by rw [hid]; trivial) (by rw [hid]; trivial)
      · rw [hid] at hold
        obtain ⟨e1, e2, e3⟩ := hold
        have hn : n / s' * s' = n := Nat.div_mul_cancel (Nat.dvd_of_mod_eq_zero h2)
        exact ⟨h0, _, _, _, _, h5, by omega, h3, e3, .inr ⟨b, 0, rfl, fun j hj => by rw [Nat.zero_add, ho.cell]; simp [List.getElem?_take, show j < n by omega]⟩⟩
      · rw [hid] at hk
        rcases hk with ⟨k2, hk⟩ | hk | ⟨_, _, hk⟩ <;> cases hk
        exact ⟨h0, _, _, _, [], h2, by simp, Nat.le_refl _, by simp [RelL], .inl rfl⟩
    · cases hr
  · cases hr

/-- Cells of a slice, read. -/
theorem run_firstCells {a : Option Addr} {len cap s n : Nat} {vs : List Value} (hl : vs.length = n * s) (hc : vs = [] ∨ ∃ b o, a = some ⟨b, o, none⟩ ∧ ∀ j, j < vs.length → w.cell? ⟨b, o + j, none⟩ = vs[j]?) (hn : a = none → vs = []) :
    (Builtin.firstCells s n (.slice a len cap)).run P w = .ok vs.toArray w := by
  cases a with
  | none => rw [hn rfl]; simp [Builtin.firstCells]
  | some a =>
    rcases hc with hc | ⟨b, o, h1, h2⟩
    · subst hc
      simp only [List.length_nil] at hl
      simp [Builtin.firstCells, loadCells, ← hl, loadCellsFrom]
    · simp only [Option.some.injEq] at h1
      subst h1
      have := run_loadCellsFrom (P := P) (w := w) (b := b) (o := o) (n * s) 0 #[] vs hl (fun j hj => by rw [Nat.zero_add]; exact h2 j (by omega))
      simp only [Builtin.firstCells, loadCells, this]
      simp

theorem getD_map (k : IntKind) (l : List Int) {j : Nat} (hj : j < l.length) : (l.map (Value.int k))[j]? = some (.int k (l.getD j 0)) := by
  simp [List.getD_eq_getElem?_getD, hj]

/-- append's (copy's) right-hand side: how many elements, which cells. -/
theorem srcInts_ok (hh : HeapRel F ρ h w) {x : V} {vx : Value} {k : IntKind} {s : Nat} {l : List Int} {tc : List Nat} (hs : 0 < s) (hx : Rel ρ (av F (liveM ρ h)) w x vx) (hr : srcInts h k s x = some (l, tc)) :
    ∃ n, (Builtin.lenOf vx).run P w = .ok n w ∧ l.length = n * s ∧ ∀ n', n' ≤ n → (Builtin.firstCells s n' vx).run P w = .ok ((l.take (n' * s)).map (Value.int k)).toArray w := by
  unfold srcInts at hr
  split at hr
  · simp only [Option.some.injEq, Prod.mk.injEq] at hr
    obtain ⟨rfl, _⟩ := hr
    have := hx.c; subst this
    exact ⟨0, by simp [Builtin.lenOf], by simp, fun n' hn' => by simp [Builtin.firstCells]⟩
  · rename_i b
    obtain ⟨hk, hr⟩ := cond_some hr
    obtain ⟨hk1, hk2⟩ := two_true hk
    have hk1 := keq_eq hk1
    have hk2 := beq_eq hk2
    simp only [Option.some.injEq, Prod.mk.injEq] at hr
    obtain ⟨rfl, _⟩ := hr
    have := hx.c; subst this
    subst hk1; subst hk2
    refine ⟨b.size, by simp [Builtin.lenOf], by simp [intsOfBytes], fun n' hn' => ?_⟩
    simp only [Builtin.firstCells, Sem.run_pure, Nat.mul_one]
    congr 1
    apply Array.ext'
    simp [intsOfBytes, List.map_take]
    rfl
  · split at hr
    · rename_i k' s' l' t' hrow
      obtain ⟨hk, hr⟩ := cond_some hr
      obtain ⟨hk1, hk2⟩ := two_true hk
      have hk1 := keq_eq hk1
      have hk2 := beq_eq hk2
      simp only [Option.some.injEq, Prod.mk.injEq] at hr
      obtain ⟨rfl, _⟩ := hr
      subst hk1; subst hk2
      obtain ⟨_, a, len, cap, rfl, h2, h3, h4⟩ := rowOf_ok hh hx hrow
      refine ⟨len, by simp [Builtin.lenOf], h2, fun n' hn' => ?_⟩
      have hle : n' * s' ≤ len * s' := Nat.mul_le_mul_right _ hn'
      refine run_firstCells (by simp; omega) ?_ ?_
      · rcases h4 with h4 | ⟨b, o, h4, h5⟩
        · subst h4; left; simp
        · right
          refine ⟨b, o, h4, fun j hj => ?_⟩
          simp at hj
          rw [h5 j (by omega), List.map_take, List.getElem?_take_of_lt (by omega), getD_map k l' (by omega)]
      · intro ha
        rcases h4 with h4 | ⟨b, o, h4, h5⟩
        · subst h4; simp
        · rw [ha] at h4; cases h4
    · cases hr

theorem srcVals_ok (hh : HeapRel F ρ h w) {x : V} {vx : Value} {s : Nat} {l : List V} {tc : List Nat} (hs : 0 < s) (hx : Rel ρ (av F (liveM ρ h)) w x vx) (hr : srcVals h s x = some (l, tc)) :
    ∃ n cs, (Builtin.lenOf vx).run P w = .ok n w ∧ l.length = n * s ∧ RelL ρ (av F (liveM ρ h)) w l cs ∧ (∀ v ∈ cs, v.oneCell' = true) ∧ (Builtin.firstCells s n vx).run P w = .ok cs.toArray w := by
  unfold srcVals at hr
  split at hr
  · simp only [Option.some.injEq, Prod.mk.injEq] at hr
    obtain ⟨rfl, _⟩ := hr
    have := hx.c; subst this
    exact ⟨0, [], by simp [Builtin.lenOf], by simp, by simp [RelL], by simp, by simp [Builtin.firstCells]⟩
  · split at hr
    · rename_i s' l' t' hrow
      obtain ⟨hk, hr⟩ := cond_some hr
      obtain ⟨hk1, hk2⟩ := two_true hk
      have hk1 := beq_eq hk1
      simp only [Option.some.injEq, Prod.mk.injEq] at hr
      obtain ⟨rfl, _⟩ := hr
      subst hk1
      obtain ⟨_, a, len, cap, cs, rfl, h2, h3, h4, h5⟩ := rowV_ok hh hx hrow
      have hlen := h4.length
      refine ⟨len, cs, by simp [Builtin.lenOf], h2, h4, RelL.oneCell h4 hk2, run_firstCells (by omega) ?_ ?_⟩
      · rcases h5 with h5 | ⟨b, o, h5, h6⟩
        · left; subst h5; simp at hlen; exact List.length_eq_zero_iff.mp hlen.symm
        · right; exact ⟨b, o, h5, fun j hj => h6 j (by omega)⟩
      · intro ha
        rcases h5 with h5 | ⟨b, o, h5, h6⟩
        · subst h5; simp at hlen; exact List.length_eq_zero_iff.mp hlen.symm
        · rw [ha] at h5; cases h5
    · cases hr

/-- Ints out of related cells. -/
theorem asInts_ok {k : IntKind} : ∀ {cs : List V} {l : List Int} {vs : List Value}, asInts k cs = some l → RelL ρ M w cs vs → vs = l.map (.int k)
  | [], l, [], h, _ => by simp [asInts] at h; subst h; rfl
  | [], _, _ :: _, _, h => by simp [RelL] at h
  | _ :: _, _, [], _, h => by simp [RelL] at h
  | x :: cs, l, v :: vs, h, hr => by
    simp only [RelL] at hr
    cases x with
    | c y =>
      cases y with
      | int k' n =>
        simp only [asInts] at h
        obtain ⟨hk, h1⟩ := cond_some h
        have hkk := keq_eq hk
        subst hkk
        simp only [Option.map_eq_some_iff] at h1
        obtain ⟨r, h2, rfl⟩ := h1
        have := hr.1.int
        subst this
        rw [asInts_ok h2 hr.2]
        rfl
      | _ => simp [asInts] at h
    | _ => simp [asInts] at h

theorem mkRow_ok {ti : TI} {cs : List V} {b : Blk} {c : Array Value} (hm : mkRow ti cs = some b) (hr : RelL ρ M w cs c.toList) : Holds ρ M w cs.length c b := by
  unfold mkRow at hm
  have hlen := hr.length
  split at hm
  · rename_i k hk
    simp only [Option.map_eq_some_iff] at hm
    obtain ⟨l, h1, rfl⟩ := hm
    have h2 := asInts_ok h1 hr
    have h3 : l.length = c.size := by have := congrArg List.length h2; simpa using this.symm
    refine ⟨by simp at hlen; omega, by simp at hlen; omega, fun i hi => ?_⟩
    have : c[i]? = (c.toList)[i]? := by simp
    rw [this, h2]
    simp [List.getD_eq_getElem?_getD, hi]
  · simp only [Option.some.injEq] at hm
    subst hm
    refine ⟨rfl, by simp at hlen; omega, ?_⟩
    rw [List.take_of_length_le (by omega)]
    exact hr

theorem repV_len (l : List V) : ∀ n, (repV n l).length = n * l.length
  | 0 => by simp [repV]
  | n + 1 => by simp [repV, repV_len l n, Nat.succ_mul, Nat.add_comm]

/-- Zero cells, again and again. -/
theorem rep_range {zero : Array Value} (hz : 0 < zero.size) : ∀ n, ((Array.range (n * zero.size)).map (zero[· % zero.size]!)).toList = (List.replicate n zero.toList).flatten
  | 0 => by simp
  | n + 1 => by
    have ih := rep_range hz n
    apply List.ext_getElem?
    intro j
    rw [List.replicate_succ', List.flatten_append]
    simp only [List.flatten_cons, List.flatten_nil, List.append_nil]
    by_cases h1 : j < n * zero.size
    · rw [List.getElem?_append_left (by rw [← ih]; simp; exact h1), ← ih]
      simp [h1, show j < (n + 1) * zero.size by rw [Nat.succ_mul]; omega]
    · rw [List.getElem?_append_right (by rw [← ih]; simp; omega), ← ih]
      simp only [Array.toList_map, List.length_map, Array.length_toList, Array.size_range]
      by_cases h2 : j < (n + 1) * zero.size
      · have h3 : j - n * zero.size < zero.size := by rw [Nat.succ_mul] at h2; omega
        have h4 : j % zero.size = j - n * zero.size := by
          have : j = (j - n * zero.size) + zero.size * n := by rw [Nat.mul_comm zero.size n]; omega
          rw [this, Nat.add_mul_mod_self_left, Nat.mod_eq_of_lt h3]
          have : zero.size * n = n * zero.size := Nat.mul_comm _ _
          omega
        simp only [List.getElem?_map]
        have : (Array.range ((n + 1) * zero.size)).toList[j]? = some j := by simp [h2]
        rw [this]
        simp [h4, h3]
      · have h3 : ¬ j - n * zero.size < zero.size := by rw [Nat.succ_mul] at h2; omega
        rw [List.getElem?_eq_none (by simp; omega), List.getElem?_eq_none (by simp; omega)]

theorem repV_rel {cs : List V} {vs : List Value} (hr : RelL ρ M w cs vs) : ∀ n, RelL ρ M w (repV n cs) (List.replicate n vs).flatten
  | 0 => by simp [repV, RelL]
  | n + 1 => by
    rw [List.replicate_succ, List.flatten_cons]
    exact hr.append (repV_rel hr n)

theorem fillV_len {pl : Nat → Option (Nat × Nat)} : ∀ (ps : List (Nat × V)) (cs r : List V), fillV pl cs ps = some r → r.length = cs.length
  | [], cs, r, h => by simp [fillV] at h; subst h; rfl
  | (i, v) :: ps, cs, r, h => by
    simp only [fillV] at h
    split at h
    · cases h
    · split at h
      · rename_i vs hvs
        obtain ⟨hg, h⟩ := cond_some h
        obtain ⟨hg1, hg2⟩ := two_true hg
        have hpos := blt_lt hg2
        have he := beq_eq hg1
        split at h
        · rename_i cs' hcs
          obtain ⟨h3, h4⟩ := setVals_eq hcs
          have := h4 (by rintro rfl; simp at he; omega)
          rw [fillV_len ps cs' r h, h3]
          simp; omega
        · cases h
      · cases h

theorem buildSlice_ok (hty : TyOK P ty) (hh : HeapRel F ρ h w) (hn : ρ nid = none) (he : ∀ x, Rel ρ (av F (liveM ρ h)) w (ev x) (ae x)) {t e len : Nat} {ti te : TI} {ps : Array (Nat × Operand)} {cs : List V} {b : Blk} (ht : ty t = some ti) (htk : ti.tk = .slice e) (hte : ty e = some te)
    (hg : (Nat.ble (len * te.size) 16777216 && Nat.blt 0 te.size) = true) (hf : fillV (fun i => some (i * te.size, te.size)) (repV len (zeroV te)) (ps.toList.map fun p => (p.1, ev p.2)) = some cs) (hm : mkRow te cs = some b) :
    OpOK F ρ h w nid { val := .sw nid te.size, new := [b] } ((do pure (.value (← Instr.buildSlice t len (ps.map fun (i, x) => (i, ae x)))) : Sem Next).run P w) := by
  have h0 := hty _ _ hte
  have hu := (hty _ _ ht).tk
  rw [htk] at hu
  simp only [tkOK] at hu
  obtain ⟨hg1, hg2⟩ := two_true hg
  have hle := ble_le hg1
  have hs := blt_lt hg2
  obtain ⟨z, z1, z2⟩ := h0.zeroValue (w := w)
  have hzl : z.cells.size = te.size := by have := congrArg List.length z2; simp at this; rw [this, h0.zlen]
  generalize hzc : (if len * te.size = 0 then #[] else z.cells) = zc
  have hz : RelL ρ (av F (liveM ρ h)) w (repV len (zeroV te)) ((Array.range (len * te.size)).map (zc[· % zc.size]!)).toList := by
    by_cases h0 : len * te.size = 0
    · have hl0 : len = 0 := by
        rcases Nat.mul_eq_zero.mp h0 with h | h
        · exact h
        · omega
      subst hl0
      simp [repV, RelL]
    · rw [if_neg h0] at hzc
      subst hzc
      rw [← hzl, rep_range (by omega), z2]
      exact repV_rel (RelL.map_c _) len
  obtain ⟨ys, c1, c2⟩ := fillV_ok (pl' := fun i => some (i * te.size, te.size)) (fun i p hp => hp) _ (ps.toList.map fun p => (p.1, ae p.2)) _ _ _ hf hz (by simp) (evPairs he ps.toList)
  have hps : (ps.map fun (i, x) => (i, ae x)).toList = ps.toList.map fun p => (p.1, ae p.2) := by simp
  have hold := mkRow_ok hm c2
  have hcl : cs.length = len * te.size := by
    rw [fillV_len _ _ _ hf, repV_len]
    simp [zeroV, h0.zlen]
  rw [hcl] at hold
  refine OpOK.made (c := ys) (e := e) (fr := (0, 0)) (n := len * te.size) (w' := { w with heap := w.heap.push (.cells ys e) }) hh hn (fun i _ => by dsimp only; omega) hold rfl (v := .slice (some ⟨w.heap.size, 0, none⟩) len len) ?_ ?_
  · have hbig : ¬ (len * te.size > 2 ^ 24) := by omega
    rw [← hps] at c1
    by_cases hne : len * te.size = 0
    · rw [if_pos hne] at hzc
      subst hzc
      simp only [Instr.buildSlice, Sem.run_bind, run_underlying hu, Result.andThen_ok, h0.sizeOf, if_neg hbig, if_pos hne, z1, Sem.run_pure, Sem.run_ite]
      simp only [c1, newRow, Sem.run_bind, run_newObj, Result.andThen_ok, Sem.run_pure]
    · rw [if_neg hne] at hzc
      subst hzc
      simp only [Instr.buildSlice, Sem.run_bind, run_underlying hu, Result.andThen_ok, h0.sizeOf, if_neg hbig, if_neg hne, z1, Sem.run_pure, Sem.run_ite]
      simp only [c1, newRow, Sem.run_bind, run_newObj, Result.andThen_ok, Sem.run_pure]
  · intro ρ' M' w'' hp
    simp only [Rel]
    have hys := c2.length
    simp at hys
    exact ⟨hs, .inl ⟨_, _, _, len, hp, Nat.mul_mod_left _ _, by rw [div_of_mul hs]; exact Nat.le_refl _, by omega, by rw [div_of_mul hs]⟩⟩

/-- make -/
theorem wrap_id {n : Int} (h0 : 0 ≤ n) (h1 : n ≤ 9223372036854775807) : IntKind.i64.wrap n = n := by
  have e0 : (2 : Int) ^ IntKind.i64.bits = 18446744073709551616 := by decide
  have eb : (2 : Int) ^ (IntKind.i64.bits - 1) = 9223372036854775808 := by decide
  have e : n % 2 ^ IntKind.i64.bits = n := Int.emod_eq_of_lt h0 (by rw [e0]; omega)
  unfold IntKind.wrap
  simp only [e]
  rw [if_neg]
  simp only [Bool.and_eq_true, decide_eq_true_eq, not_and]
  intro _
  rw [eb]
  omega

theorem homo_zero {ti : TI} {k : IntKind} (hh : homo ti = some k) (hz : ti.zero.all (fun | .int _ z => z == 0 | _ => false) = true) : ∀ v ∈ ti.zero, v = .int k 0 := by
  unfold homo at hh
  split at hh
  · rename_i k0 n0 r hr
    obtain ⟨h1, h2⟩ := cond_some hh
    simp only [Option.some.injEq] at h2
    subst h2
    intro v hv
    have hv0 := List.all_eq_true.mp hz v hv
    rw [hr] at hv
    rcases List.mem_cons.mp hv with rfl | hv
    · simp at hv0; rw [hv0]
    · have := List.all_eq_true.mp h1 v hv
      cases v with
      | int k' n' =>
        simp only at this hv0
        have hk := keq_eq this
        simp at hv0
        rw [hk, hv0]
      | _ => simp at hv0
  · cases hh

theorem makeSlice_ok (hty : TyOK P ty) (hh : HeapRel F ρ h w) (hn : ρ nid = none) {t e : Nat} {ti te : TI} {n m : Int} {k : IntKind} (ht : ty t = some ti) (htk : ti.tk = .slice e) (hte : ty e = some te) (hk : homo te = some k) (hz : te.zero.all (fun | .int _ z => z == 0 | _ => false) = true)
    (hg : (decide (n = m) && decide (0 ≤ n) && decide (n ≤ 9223372036854775807) && roomy n.toNat te.bytes) = true) :
    OpOK F ρ h w nid { val := .sw nid te.size, new := [.ints k (List.replicate (mulw te.size n.toNat) 0)] } ((do pure (.value (← Instr.makeSlice t (.int .i64 n) (.int .i64 m))) : Sem Next).run P w) := by
  have h0 := hty _ _ hte
  have hu := (hty _ _ ht).tk
  rw [htk] at hu
  simp only [tkOK] at hu
  obtain ⟨o1, o2, o3, o4⟩ := four_true hg
  simp only [decide_eq_true_eq, roomy] at o1 o2 o3 o4
  subst o1
  obtain ⟨z, z1, z2⟩ := h0.zeroValue (w := w)
  obtain ⟨inf, i1, i2, i3⟩ := h0.typeInfo (w := w)
  have hzl : z.cells.size = te.size := by have := congrArg List.length z2; simp at this; rw [this, h0.zlen]
  have hs : 0 < te.size := by
    rw [← h0.zlen]
    unfold homo at hk
    split at hk
    · rename_i hr; rw [hr]; simp
    · cases hk
  have hw := wrap_id o2 o3
  have hsmall : ¬ (decide (n < 0) || decide ((te.bytes : Int) * n > 2 ^ 48)) = true := by
    have h1 : ¬ n < 0 := by omega
    have h2 : (te.bytes : Int) * n ≤ 70368744177664 := by
      have : ((n.toNat * te.bytes : Nat) : Int) ≤ 70368744177664 := Int.ofNat_le.mpr o4
      rw [Int.natCast_mul, Int.toNat_of_nonneg o2, Int.mul_comm] at this
      exact this
    simp only [Bool.or_eq_true, decide_eq_true_eq, not_or]
    exact ⟨h1, by omega⟩
  have hcells : ∀ j, j < n.toNat * te.size → (((Array.range (n.toNat * te.size)).map (z.cells[· % z.cells.size]!)))[j]? = some (.int k 0) := by
    intro j hj
    have hlt : j % z.cells.size < z.cells.size := Nat.mod_lt _ (by omega)
    have hmem : z.cells[j % z.cells.size] ∈ te.zero := by rw [← z2]; exact Array.mem_toList_iff.mpr (Array.getElem_mem hlt)
    have := homo_zero hk hz _ hmem
    have e1 : (Array.range (n.toNat * te.size))[j]? = some j := by simp [hj]
    rw [Array.getElem?_map, e1]
    simp only [Option.map_some]
    rw [getElem!_pos z.cells (j % z.cells.size) hlt, this]
  refine OpOK.made (c := (Array.range (n.toNat * te.size)).map (z.cells[· % z.cells.size]!)) (e := e) (fr := (0, 0)) (n := n.toNat * te.size) (w' := { w with heap := w.heap.push (.cells ((Array.range (n.toNat * te.size)).map (z.cells[· % z.cells.size]!)) e) }) hh hn (fun i _ => by dsimp only; omega) ?_ rfl (v := .slice (some ⟨w.heap.size, 0, none⟩) n.toNat n.toNat) ?_ ?_
  · refine ⟨by rw [List.length_replicate, mulw_eq], by rw [Array.size_map, Array.size_range]; exact Nat.le_refl _, fun i hi => ?_⟩
    simp only [mulw_eq, List.length_replicate] at hi
    rw [hcells i hi]
    simp [mulw_eq, List.getD_eq_getElem?_getD, List.getElem?_replicate, hi]
  · have hor : ¬ ((decide (n < 0) || decide ((te.bytes : Int) * n > 2 ^ 48)) || decide (n < 0) || decide (n > n)) = true := by
      simp only [Bool.or_eq_true, decide_eq_true_eq, not_or] at hsmall ⊢
      omega
    simp only [Instr.makeSlice, Sem.run_bind, run_underlying hu, Result.andThen_ok, asInt, asIntOf, Sem.run_pure, i1, i2, hw, if_neg hor, run_askRoom, h0.sizeOf, newRow, run_newObj, Sem.run_ite]
    by_cases hz0 : n.toNat * te.size = 0
    · have he : ∀ f : Nat → Value, (Array.range (n.toNat * te.size)).map f = #[] := by intro f; rw [hz0]; simp
      rw [if_pos hz0, he, he]
      rfl
    · rw [if_neg hz0, z1]
      rfl
  · intro ρ' M' w'' hp
    simp only [Rel]
    refine ⟨hs, .inl ⟨_, _, _, n.toNat, hp, Nat.mul_mod_left _ _, by rw [div_of_mul hs]; exact Nat.le_refl _, by simp, by rw [div_of_mul hs]⟩⟩

end
end Go.Proofs.Ytlofhdoefjmabaa.Ev

/-
  The evaluator's operations, tenth part: rows grown and copied; conversions. (A text of ours; no condition.)
-/
namespace Go.Proofs.Ytlofhdoefjmabaa.Ev
set_option linter.unusedVariables false
set_option linter.unusedSimpArgs false

section
variable {P : Program} {F : Nat → Prop} {ρ : Rho} {h : Nat → Blk} {w : World} {nid : Nat} {ty : Nat → Option TI} {ev : Operand → V} {ae : Operand → Value} {out : Out} {M : Nat → Prop} {ts : Array TypeId} {e : Nat} {te : TI}

theorem growBy_le (newLen : Nat) : ∀ (r c : Nat), c ≤ 2 * newLen → 256 ≤ newLen → Builtin.growBy newLen r c ≤ 2 * newLen
  | 0, c, h, _ => by simpa [Builtin.growBy] using h
  | r + 1, c, h, h2 => by
    simp only [Builtin.growBy]
    split
    · exact h
    · exact growBy_le newLen r _ (by omega) h2

theorem nextcap_le {need cap : Nat} (h : cap < need) : Builtin.nextslicecap need cap ≤ 2 * need := by
  unfold Builtin.nextslicecap
  split
  · omega
  · split
    · omega
    · exact growBy_le need 4 cap (by omega) (by omega)

theorem roomy_le {n b : Nat} (h : roomy n b = true) : n * b ≤ 70368744177664 := by simpa [roomy] using h

theorem cut_ge (need old : Nat) (e : TypeId) (t : Nat) : need ≤ Question.cut (.appendCap need old e) t := by simp [Question.cut]

/-- A block's cells with more behind them. -/
theorem Holds.grow_ints {n m : Nat} {c c' : Array Value} {k : IntKind} {l src : List Int} (hx : Holds ρ M w n c (.ints k l)) (hl : src.length = m) (hs : n + m ≤ c'.size) (h1 : ∀ j, j < n → c'[j]? = c[j]?) (h2 : ∀ j, j < m → c'[n + j]? = some (.int k (src.getD j 0))) :
    Holds ρ M w (n + m) c' (.ints k (l ++ src)) := by
  obtain ⟨a1, a2, a3⟩ := hx
  refine ⟨by simp; omega, hs, fun i hi => ?_⟩
  simp at hi
  by_cases h : i < n
  · rw [h1 i h, a3 i (by omega)]
    simp [List.getD_eq_getElem?_getD, List.getElem?_append_left (show i < l.length by omega)]
  · have e : i = n + (i - n) := by omega
    rw [e, h2 (i - n) (by omega)]
    simp [List.getD_eq_getElem?_getD, List.getElem?_append_right (show l.length ≤ n + (i - n) by omega), a1]

theorem Holds.grow_vals {n m : Nat} {c c' : Array Value} {l src : List V} {us : List Value} (hx : Holds ρ M w n c (.vals l)) (hr : RelL ρ M w src us) (hl : us.length = m) (hs : n + m ≤ c'.size) (h1 : ∀ j, j < n → c'[j]? = c[j]?) (h2 : ∀ j, j < m → c'[n + j]? = us[j]?) :
    Holds ρ M w (n + m) c' (.vals (l ++ src)) := by
  obtain ⟨a1, a2, a3⟩ := hx
  have hlen := hr.length
  refine ⟨by simp; omega, hs, ?_⟩
  have e : c'.toList.take (n + m) = c.toList.take n ++ us := by
    apply List.ext_getElem?
    intro j
    by_cases hj : j < n + m
    · rw [List.getElem?_take_of_lt hj, Array.getElem?_toList]
      by_cases h : j < n
      · rw [h1 j h, List.getElem?_append_left (by simp; omega), List.getElem?_take_of_lt h, Array.getElem?_toList]
      · have e : j = n + (j - n) := by omega
        rw [e, h2 (j - n) (by omega), List.getElem?_append_right (by simp; omega)]
        congr 1
        simp; omega
    · rw [List.getElem?_eq_none (by simp; omega), List.getElem?_eq_none (by simp; omega)]
  rw [e]
  exact a3.append hr

/-- append's run: in place. -/
theorem run_append_in {t e t2 : Nat} {te : TI} {ts : Array TypeId} (t' : TypeId) {d2 : TypeDesc} (hu : P.underlying t = some (.slice e)) (h0 : TyOK1 P e te) (hts0 : ts[0]? = some t) (hts1 : ts[1]? = some t2) (hd2 : P.underlying t2 = some d2) (hd2i : (∃ x, d2 = .slice x) ∨ d2 = .string)
    {base : Option Addr} {n cap m : Nat} {vx : Value} {us : List Value} (hlen : (Builtin.lenOf vx).run P w = .ok m w) (hcells : (Builtin.firstCells te.size m vx).run P w = .ok us.toArray w) (hle : n + m ≤ cap) :
    (Builtin.append_ ts t' #[.slice base n cap, vx]).run P w = match base with
      | some a => ((storeCells (a.add (n * te.size)) us).run P w).andThen fun _ w' => .ok (.slice base (n + m) cap) w'
      | none => .ok (.slice base (n + m) cap) w := by
  have hz : ((underlying t2).run P w) = .ok d2 w := run_underlying hd2 w
  rcases hd2i with ⟨y, rfl⟩ | rfl <;>
    (simp only [Builtin.append_, hts0, hts1, List.getElem?_toArray, List.getElem?_cons_zero, List.getElem?_cons_succ, Sem.run_bind, run_underlying hu, run_underlying hd2, Result.andThen_ok, h0.sizeOf, Sem.run_pure, hlen, Bool.false_eq_true, if_false, if_pos hle, hcells, Bool.not_false, if_true]
     cases base <;> simp [hcells])

theorem zeroCells_size (zero : Array Value) (n : Nat) : (Builtin.zeroCells zero n).size = n * zero.size := by simp [Builtin.zeroCells]

/-- append's run: a new row. -/
theorem run_append_grow {t e t2 : Nat} {te : TI} {ts : Array TypeId} (t' : TypeId) {d2 : TypeDesc} (hu : P.underlying t = some (.slice e)) (h0 : TyOK1 P e te) (hts0 : ts[0]? = some t) (hts1 : ts[1]? = some t2) (hd2 : P.underlying t2 = some d2) (hd2i : (∃ x, d2 = .slice x) ∨ d2 = .string) (hb : 0 < te.bytes)
    {base : Option Addr} {n cap m : Nat} {vx : Value} {us os : List Value} (hlen : (Builtin.lenOf vx).run P w = .ok m w) (hcells : ∀ w' : World, w'.heap = w.heap → (Builtin.firstCells te.size m vx).run P w' = .ok us.toArray w')
    (hold : ∀ w' : World, w'.heap = w.heap → (Builtin.firstCells te.size n (.slice base n cap)).run P w' = .ok os.toArray w') (hlt : cap < n + m) (hroom : roomy (n + m) te.bytes = true) :
    ∃ newCap w' zs, n + m ≤ newCap ∧ zs.size = (newCap - (n + m)) * te.size ∧ (w'.heap = w.heap.push (.cells (os.toArray ++ us.toArray ++ zs) e) ∧ Keeps w w') ∧
      (Builtin.append_ ts t' #[.slice base n cap, vx]).run P w = .ok (.slice (some ⟨w.heap.size, 0, none⟩) (n + m) newCap) w' := by
  have hz : ((underlying t2).run P w) = .ok d2 w := run_underlying hd2 w
  obtain ⟨inf, i1, i2, i3⟩ := h0.typeInfo (w := w)
  have hr := roomy_le hroom
  have hnle : ¬ (n + m ≤ cap) := by omega
  have hb1 : inf.bytes = te.bytes := i2
  have hsm : n + m ≤ 70368744177664 := by
    have : (n + m) * 1 ≤ (n + m) * te.bytes := Nat.mul_le_mul_left _ hb
    omega
  have hnc := nextcap_le (show cap < n + m by omega)
  have hncb : ¬ (Builtin.nextslicecap (n + m) cap * te.bytes > 2 ^ 48) := by
    have h1 : Builtin.nextslicecap (n + m) cap * te.bytes ≤ 2 * (n + m) * te.bytes := Nat.mul_le_mul_right _ hnc
    have h2 : 2 * (n + m) * te.bytes = 2 * ((n + m) * te.bytes) := Nat.mul_assoc _ _ _
    omega
  let w1 : World := { w with drawn := w.drawn + 1 }
  let nc := Question.cut (.appendCap (n + m) cap e) (w.tape w.drawn (.appendCap (n + m) cap e))
  obtain ⟨z, z1, z2⟩ := h0.zeroValue (w := w1)
  obtain ⟨inf1, j1, j2, j3⟩ := h0.typeInfo (w := w1)
  have hzl : z.cells.size = te.size := by have := congrArg List.length z2; simp at this; rw [this, h0.zlen]
  have hch : (choose (.appendCap (n + m) cap e)).run P w = .ok nc w1 := by simp [run_choose, Question.forced, nc, w1]
  have hmx : ¬ (((n + m : Nat) : Int) > IntKind.i64.max ∧ (false = true ∨ inf.bytes = 0)) := by
    rintro ⟨h1, h2 | h2⟩
    · cases h2
    · omega
  refine ⟨nc, { w1 with heap := w1.heap.push (.cells (os.toArray ++ us.toArray ++ Builtin.zeroCells z.cells (nc - (n + m))) e) }, Builtin.zeroCells z.cells (nc - (n + m)), cut_ge _ _ _ _, by rw [zeroCells_size, hzl], ⟨rfl, ⟨rfl, rfl, rfl, Nat.le_succ _⟩⟩, ?_⟩
  have ho := hold w1 rfl
  have hc := hcells w1 rfl
  have hncb' : ¬ (Builtin.nextslicecap (n + m) cap * inf.bytes > 2 ^ 48) := by rw [hb1]; exact hncb
  have hmx' : ¬ (((n + m : Nat) : Int) > IntKind.i64.max ∧ inf.bytes = 0) := by
    rintro ⟨_, h2⟩; omega
  rcases hd2i with ⟨y, rfl⟩ | rfl <;>
    (simp only [Builtin.append_, hts0, hts1, List.getElem?_toArray, List.getElem?_cons_zero, List.getElem?_cons_succ, Sem.run_bind, run_underlying hu, run_underlying hd2, Result.andThen_ok, h0.sizeOf, Sem.run_pure, hlen, Bool.false_eq_true, if_false, if_neg hnle, hcells, Bool.not_false, if_true, i1, Sem.run_ite, if_neg hncb', hch, run_askRoom, ho, hc, z1, j1, newRow, run_newObj, false_or]
     rw [if_neg hmx'])

theorem Ext.heq {M : Nat → Prop} {w' : World} (he : w'.heap = w.heap) (hk : Keeps w w') : Ext M w M w' := ⟨by rw [he]; exact Nat.le_refl _, fun b _ _ => by rw [he], fun b h => .inl h, hk⟩
theorem HeapRel.heq {w' : World} (he : w'.heap = w.heap) (hh : HeapRel F ρ h w) : HeapRel F ρ h w' :=
  ⟨hh.wf, fun id hl => by
    obtain ⟨p, h1, h2⟩ := hh.rel id hl
    exact ⟨p, h1, BlkRel.world he h2⟩, hh.inj, fun b hb => by rw [he]; exact hh.low b hb, hh.out⟩

theorem srcInts_ok' (hh : HeapRel F ρ h w) {x : V} {vx : Value} {k : IntKind} {s : Nat} {l : List Int} {tc : List Nat} (hs : 0 < s) (hx : Rel ρ (av F (liveM ρ h)) w x vx) (hr : srcInts h k s x = some (l, tc)) :
    ∃ n, (Builtin.lenOf vx).run P w = .ok n w ∧ l.length = n * s ∧ ∀ w' : World, w'.heap = w.heap → (Builtin.firstCells s n vx).run P w' = .ok (l.map (Value.int k)).toArray w' := by
  obtain ⟨n, h1, h2, _⟩ := srcInts_ok (P := P) hh hs hx hr
  refine ⟨n, h1, h2, fun w' he => ?_⟩
  obtain ⟨n2, h3, h4, h5⟩ := srcInts_ok (P := P) (hh.heq he) hs (Rel.world he _ _ hx) hr
  have : n2 = n := Nat.eq_of_mul_eq_mul_right hs (by omega)
  subst this
  have := h5 n2 (Nat.le_refl _)
  rwa [List.take_of_length_le (by omega)] at this

theorem srcVals_ok' (hh : HeapRel F ρ h w) {x : V} {vx : Value} {s : Nat} {l : List V} {tc : List Nat} (hs : 0 < s) (hx : Rel ρ (av F (liveM ρ h)) w x vx) (hr : srcVals h s x = some (l, tc)) :
    ∃ n cs, (Builtin.lenOf vx).run P w = .ok n w ∧ l.length = n * s ∧ RelL ρ (av F (liveM ρ h)) w l cs ∧ (∀ v ∈ cs, v.oneCell' = true) ∧ ∀ w' : World, w'.heap = w.heap → (Builtin.firstCells s n vx).run P w' = .ok cs.toArray w' := by
  unfold srcVals at hr
  split at hr
  · simp only [Option.some.injEq, Prod.mk.injEq] at hr
    obtain ⟨rfl, _⟩ := hr
    have := hx.c; subst this
    exact ⟨0, [], by simp [Builtin.lenOf], by simp, by simp [RelL], by simp, fun w' _ => by simp [Builtin.firstCells]⟩
  · split at hr
    · rename_i s' l' t' hrow
      obtain ⟨hk, hr⟩ := cond_some hr
      obtain ⟨hk1, hk2⟩ := two_true hk
      have hk1 := beq_eq hk1
      simp only [Option.some.injEq, Prod.mk.injEq] at hr
      obtain ⟨rfl, _⟩ := hr
      subst hk1
      obtain ⟨_, a, len, cap, cs, rfl, h2, h3, h4, h5⟩ := rowV_ok hh hx hrow
      have hlen := h4.length
      refine ⟨len, cs, by simp [Builtin.lenOf], h2, h4, RelL.oneCell h4 hk2, fun w' he => run_firstCells (by omega) ?_ ?_⟩
      · rcases h5 with h5 | ⟨b, o, h5, h6⟩
        · left; subst h5; simp at hlen; exact List.length_eq_zero_iff.mp hlen.symm
        · right; exact ⟨b, o, h5, fun j hj => by rw [cell_same (w := w) (w' := w') (by rw [he])]; exact h6 j (by omega)⟩
      · intro ha
        rcases h5 with h5 | ⟨b, o, h5, h6⟩
        · subst h5; simp at hlen; exact List.length_eq_zero_iff.mp hlen.symm
        · rw [ha] at h5; cases h5
    · cases hr

/-- What append asks of its right-hand side. -/
structure Src (P : Program) (w : World) (s m : Nat) (vx : Value) (us : List Value) : Prop where
  len : (Builtin.lenOf vx).run P w = .ok m w
  size : us.length = m * s
  one : ∀ v ∈ us, v.oneCell' = true
  cells : ∀ w' : World, w'.heap = w.heap → (Builtin.firstCells s m vx).run P w' = .ok us.toArray w'

/-- append's types. -/
structure AppT (P : Program) (ts : Array TypeId) (e : Nat) (te : TI) : Prop where
  t : ∃ t, ts[0]? = some t ∧ P.underlying t = some (.slice e)
  t2 : ∃ t2 d2, ts[1]? = some t2 ∧ P.underlying t2 = some d2 ∧ ((∃ x, d2 = .slice x) ∨ d2 = .string)
  e : TyOK1 P e te
  bytes : 0 < te.bytes
  size : 0 < te.size

theorem append_nil (ht : AppT P ts e te) (t' : TypeId) (hh : HeapRel F ρ h w) (hn : ρ nid = none) {vx : Value} {m : Nat} {us : List Value} (hs : Src P w te.size m vx us) (hroom : roomy m te.bytes = true) {x : Blk}
    (hx0 : us = [] → (∃ k, x = .ints k []) ∨ x = .vals [] ∨ (∃ k s, x = .nl k s [])) (hx : ∀ c : Array Value, us.length ≤ c.size → (∀ j, j < us.length → c[j]? = us[j]?) → Holds ρ (av F (liveM ρ h)) w us.length c x) :
    ∃ v w' ρ', (Builtin.append_ ts t' #[.slice none 0 0, vx]).run P w = .ok v w' ∧ Sub ρ ρ' ∧ (∀ id, id ≠ nid → ρ' id = ρ id) ∧ HeapRel F ρ' (setH h nid x) w' ∧ Rel ρ' (av F (liveM ρ' (setH h nid x))) w' (.sw nid te.size) v ∧ Ext (liveM ρ h) w (liveM ρ' (setH h nid x)) w' := by
  obtain ⟨t, ts0, hu⟩ := ht.t
  obtain ⟨t2, d2, ts1, hd2, hd2i⟩ := ht.t2
  by_cases hm : m = 0
  · subst hm
    have husz := hs.size
    simp at husz
    have := run_append_in (P := P) (w := w) t' hu ht.e ts0 ts1 hd2 hd2i (base := none) (n := 0) (cap := 0) hs.len (hs.cells w rfl) (by omega)
    obtain ⟨h1, h2⟩ := HeapRel.virtual hh hn (hx0 husz)
    refine ⟨_, w, _, this, setR_sub hn, fun id hid => by simp [setR, hid], h1, ?_, h2⟩
    simp only [Rel]
    exact ⟨ht.size, .inr ⟨by simp [setR], by first | trivial | rfl⟩⟩
  · obtain ⟨nc, w', zs, r1, r2, r3, r4⟩ := run_append_grow (P := P) (w := w) t' hu ht.e ts0 ts1 hd2 hd2i ht.bytes (base := none) (n := 0) (cap := 0) (os := []) hs.len hs.cells (fun w' _ => by simp [Builtin.firstCells]) (by omega) (by simpa using hroom)
    have hus := hs.size
    have hsz : (([] : List Value).toArray ++ us.toArray ++ zs : Array Value).size = nc * te.size := by
      simp only [Array.size_append, List.size_toArray, List.length_nil, hus, r2, Nat.zero_add, ← Nat.add_mul]
      congr 1; omega
    have hle : m * te.size ≤ nc * te.size := Nat.mul_le_mul_right _ (by omega)
    obtain ⟨q1, q2⟩ := HeapRel.alloc (fr := (0, 0)) hh hn (fun i _ => by dsimp only; omega) (hx (([] : List Value).toArray ++ us.toArray ++ zs) (by rw [hsz]; omega) (fun j hj => by
      have e0 : (([] : List Value).toArray ++ us.toArray ++ zs : Array Value) = us.toArray ++ zs := by simp
      rw [e0, Array.getElem?_append_left (by simpa using hj)]; simp)) r3.2 r3.1
    refine ⟨_, w', _, r4, setR_sub hn, fun id hid => by simp [setR, hid], q1, ?_, q2⟩
    simp only [Rel]
    refine ⟨ht.size, .inl ⟨w.heap.size, us.length, (([] : List Value).toArray ++ us.toArray ++ zs : Array Value).size, nc, by simp only [setR, if_true], by rw [hus]; exact Nat.mul_mod_left _ _, by rw [hus, div_of_mul ht.size]; omega, by rw [hsz]; exact Nat.le_refl _, ?_⟩⟩
    rw [hus, div_of_mul ht.size, Nat.zero_add]

theorem append_row (ht : AppT P ts e te) (t' : TypeId) (hh : HeapRel F ρ h w) (hn : ρ nid = none) {vx : Value} {m : Nat} {us : List Value} (hs : Src P w te.size m vx us) {id b n C cap : Nat} {c : Array Value} (hl : (h id).live) (hp : ρ id = some ⟨some b, n, C⟩)
    (hmod : n % te.size = 0) (hcap : n / te.size ≤ cap) (hC : cap * te.size ≤ C) (ho : Own w b C c) (hcC : c.size = C) (hnC : n ≤ C) (hroom : roomy (n / te.size + m) te.bytes = true) {x : Blk}
    (hx : ∀ c' : Array Value, n + us.length ≤ c'.size → (∀ j, j < n → c'[j]? = c[j]?) → (∀ j, j < us.length → c'[n + j]? = us[j]?) → Holds ρ (av F (liveM ρ h)) w (n + us.length) c' x) :
    ∃ v w' ρ', (Builtin.append_ ts t' #[.slice (some ⟨b, 0, none⟩) (n / te.size) cap, vx]).run P w = .ok v w' ∧ Sub ρ ρ' ∧ (∀ id, id ≠ nid → ρ' id = ρ id) ∧ HeapRel F ρ' (setH (setH h id .dead) nid x) w' ∧ Rel ρ' (av F (liveM ρ' (setH (setH h id .dead) nid x))) w' (.sw nid te.size) v ∧ Ext (liveM ρ h) w (liveM ρ' (setH (setH h id .dead) nid x)) w' := by
  obtain ⟨t, ts0, hu⟩ := ht.t
  obtain ⟨t2, d2, ts1, hd2, hd2i⟩ := ht.t2
  have hns : n / te.size * te.size = n := Nat.div_mul_cancel (Nat.dvd_of_mod_eq_zero hmod)
  have hus := hs.size
  have hsum : (n / te.size + m) * te.size = n + us.length := by rw [Nat.add_mul, hns, hus]
  have hdiv : (n + us.length) / te.size = n / te.size + m := by rw [← hsum, div_of_mul ht.size]
  by_cases hle : n / te.size + m ≤ cap
  · have h1 := run_append_in (P := P) (w := w) t' hu ht.e ts0 ts1 hd2 hd2i (base := some ⟨b, 0, none⟩) (n := n / te.size) (cap := cap) hs.len (hs.cells w rfl) hle
    have hroomC : n + us.length ≤ C := by
      have : (n / te.size + m) * te.size ≤ cap * te.size := Nat.mul_le_mul_right _ hle
      omega
    obtain ⟨w', c', r1, r2, r3, r4, r5, r6⟩ := run_storeCells (P := P) (b := b) us w n 0 C c ho (by omega) hs.one
    subst hcC
    rw [← r5] at r4 hp
    obtain ⟨q1, q2⟩ := HeapRel.retake hh hn hl hp r2 r3 r4 (hx c' (by omega) (fun j hj => by rw [r6 j, if_neg (by omega)]) (fun j hj => by rw [r6 (n + j), if_pos (by omega)]; congr 1; omega))
    refine ⟨.slice (some ⟨b, 0, none⟩) (n / te.size + m) cap, w', setR ρ nid ⟨some b, n + us.length, c'.size⟩, ?_, setR_sub hn, fun id hid => by simp [setR, hid], q1, ?_, q2⟩
    · rw [h1]
      simp only [addr_add, Nat.zero_add, hns, r1, Result.andThen_ok]
    · simp only [Rel]
      refine ⟨ht.size, .inl ⟨b, n + us.length, c'.size, cap, by simp only [setR, if_true], by rw [← hsum]; exact Nat.mul_mod_left _ _, by rw [hdiv]; exact hle, by omega, by rw [hdiv]⟩⟩
  · have hos : ∀ w' : World, w'.heap = w.heap → (Builtin.firstCells te.size (n / te.size) (.slice (some ⟨b, 0, none⟩) (n / te.size) cap)).run P w' = .ok (c.toList.take n).toArray w' := by
      intro w' he
      refine run_firstCells (by simp; omega) (.inr ⟨b, 0, rfl, fun j hj => ?_⟩) (fun h => by cases h)
      rw [cell_same (w := w) (w' := w') (by rw [he]), Nat.zero_add, ho.cell]
      simp at hj
      rw [List.getElem?_take_of_lt (by omega)]; simp
    obtain ⟨nc, w', zs, r1, r2, r3, r4⟩ := run_append_grow (P := P) (w := w) t' hu ht.e ts0 ts1 hd2 hd2i ht.bytes (base := some ⟨b, 0, none⟩) (n := n / te.size) (cap := cap) hs.len hs.cells hos (by omega) hroom
    have hsz : ((c.toList.take n).toArray ++ us.toArray ++ zs : Array Value).size = nc * te.size := by
      have h1 : (c.toList.take n).length = n := by simp; omega
      have h2 : (nc - (n / te.size + m)) * te.size + (n / te.size + m) * te.size = nc * te.size := by rw [← Nat.add_mul]; congr 1; omega
      simp only [Array.size_append, List.size_toArray, h1, r2]
      omega
    have hle2 : n + us.length ≤ nc * te.size := by rw [← hsum]; exact Nat.mul_le_mul_right _ r1
    obtain ⟨k1, k2⟩ := hh.kill id
    have hx' := hx ((c.toList.take n).toArray ++ us.toArray ++ zs) (by rw [hsz]; exact hle2) (fun j hj => by
        rw [Array.append_assoc, Array.getElem?_append_left (by simp; omega)]
        simp [List.getElem?_take_of_lt hj]) (fun j hj => by
        have h1 : (c.toList.take n).length = n := by simp; omega
        rw [Array.append_assoc, Array.getElem?_append_right (by simp; omega), Array.getElem?_append_left (by simp; omega)]
        simp only [List.size_toArray, h1, List.getElem?_toArray]
        congr 1; omega)
    obtain ⟨q1, q2⟩ := HeapRel.alloc (fr := (0, 0)) k1 hn (fun i _ => by dsimp only; omega) (hx'.mono (Sub.refl _) k2) r3.2 r3.1
    refine ⟨_, w', _, r4, setR_sub hn, fun id hid => by simp [setR, hid], q1, ?_, k2.trans q2⟩
    simp only [Rel]
    refine ⟨ht.size, .inl ⟨w.heap.size, n + us.length, ((c.toList.take n).toArray ++ us.toArray ++ zs : Array Value).size, nc, by simp only [setR, if_true], by rw [← hsum]; exact Nat.mul_mod_left _ _, by rw [hdiv]; exact r1, by rw [hsz]; exact Nat.le_refl _, by rw [hdiv]⟩⟩

end
end Go.Proofs.Ytlofhdoefjmabaa.Ev

/-
  The evaluator's operations, eleventh part: copies, conversions; all operations together. (A text of ours; no condition.)
-/
namespace Go.Proofs.Ytlofhdoefjmabaa.Ev
set_option linter.unusedVariables false
set_option linter.unusedSimpArgs false

section
variable {P : Program} {F : Nat → Prop} {ρ : Rho} {h : Nat → Blk} {w : World} {nid : Nat} {ty : Nat → Option TI} {ev : Operand → V} {ae : Operand → Value} {out : Out} {M : Nat → Prop} {ts : Array TypeId} {e : Nat} {te : TI}

theorem toList_all {k : IntKind} (l : List Int) : ∀ v ∈ l.map (Value.int k), v.oneCell' = true := by
  intro v hv
  obtain ⟨n, _, rfl⟩ := List.mem_map.mp hv
  rfl

theorem setH_self {id : Nat} {x : Blk} (he : h id = x) : setH h id x = h := by
  funext j
  unfold setH
  split
  · rename_i e; rw [e, he]
  · rfl

theorem copy_ok (hty : TyOK P ty) (hh : HeapRel F ρ h w) {t : Nat} (hts0 : ts[0]? = some t) (hu : P.underlying t = some (.slice e)) (hte : ty e = some te) (t' : TypeId) {k : IntKind} (hk : homo te = some k) {src : List Int} {tc : List Nat} {x : V} {vx vd : Value} {id : Nat} {l : List Int}
    (hs : srcInts h k te.size x = some (src, tc)) (hx : Rel ρ (av F (liveM ρ h)) w x vx) (hd : Rel ρ (av F (liveM ρ h)) w (.sw id te.size) vd) (hid : h id = .ints k l) {tc' : List Nat} :
    OpOK F ρ h w nid { val := .c (.int .i64 ((min (cnt te.size src.length) (cnt te.size l.length) : Nat) : Int)), wr := [(id, .ints k (splice l 0 (src.take (mulw te.size (min (cnt te.size src.length) (cnt te.size l.length))))))], touch := tc' }
      ((do pure (.value (← Builtin.copy_ ts t' #[vd, vx])) : Sem Next).run P w) := by
  have h0 := hty _ _ hte
  have hpos : 0 < te.size := by
    rw [← h0.zlen]
    unfold homo at hk
    split at hk
    · rename_i hr; rw [hr]; simp
    · cases hk
  obtain ⟨m, m1, m2, m3⟩ := srcInts_ok (P := P) hh hpos hx hs
  have hcm : cnt te.size src.length = m := by rw [cnt_eq, m2, div_of_mul hpos]
  obtain ⟨_, ⟨b, n, C, cap, c, h1, h2, h3, h4, h5, ho, hsz, hold⟩ | ⟨h1, h2, hk2⟩⟩ := sw_cells hh hd (by rw [hid]; trivial) (by rw [hid]; trivial)
  · rw [hid] at hold
    obtain ⟨a1, a2, a3⟩ := hold
    have hns : n / te.size * te.size = n := Nat.div_mul_cancel (Nat.dvd_of_mod_eq_zero h2)
    have hcn : cnt te.size l.length = n / te.size := by rw [cnt_eq, a1]
    rw [hcm, hcn, mulw_eq]
    generalize hq : min m (n / te.size) = q
    have hqm : q ≤ m := by omega
    have hqn : q * te.size ≤ n := by rw [← hns]; exact Nat.mul_le_mul_right _ (by omega)
    have hqs : q * te.size ≤ src.length := by rw [m2]; exact Nat.mul_le_mul_right _ hqm
    have hlen : ((src.take (q * te.size)).map (Value.int k)).length = q * te.size := by simp; omega
    obtain ⟨w', c', r1, r2, r3, r4, r5, r6⟩ := run_storeCells (P := P) (b := b) ((src.take (q * te.size)).map (Value.int k)) w 0 0 C c ho (by omega) (toList_all _)
    subst hsz
    rw [← r5] at r4 h1
    have hold' : Holds ρ (av F (liveM ρ h)) w n c' (.ints k (splice l 0 (src.take (q * te.size)))) := by
      have hsl : (splice l 0 (src.take (q * te.size))).length = n := by simp [splice]; omega
      refine ⟨hsl, by omega, fun i hi => ?_⟩
      rw [hsl] at hi
      rw [r6 i, hlen]
      simp only [splice, List.take_zero, List.nil_append, Nat.zero_add, Nat.sub_zero]
      have hlt : (src.take (q * te.size)).length = q * te.size := by simp; omega
      by_cases hiq : i < q * te.size
      · rw [if_pos ⟨by omega, by omega⟩]
        simp only [List.getElem?_map, List.getD_eq_getElem?_getD]
        rw [List.getElem?_append_left (by omega), List.getElem?_eq_getElem (by omega)]
        rfl
      · rw [if_neg (by omega), a3 i (by omega), hlt]
        simp only [List.getD_eq_getElem?_getD]
        rw [List.getElem?_append_right (by omega), hlt, List.getElem?_drop]
        congr 4
        omega
    obtain ⟨q1, q2⟩ := HeapRel.write hh (by rw [hid]; trivial) h1 r2 r3 r4 hold'
    refine ⟨_, w', ρ, .inl ?_, Sub.refl _, fun _ _ => rfl, q1, Rel.of_c _, q2⟩
    subst h5
    have hnm : Nat.min m (n / te.size) = q := hq
    have hc := m3 q hqm
    simp only [Builtin.copy_, hts0, List.getElem?_toArray, List.getElem?_cons_zero, List.getElem?_cons_succ, Sem.run_bind, run_underlying hu, Result.andThen_ok, m1, hnm, h0.sizeOf, hc, Sem.run_pure]
    simp only [r1, Result.andThen_ok, goInt]
  · rw [hid] at hk2
    have hl : l = [] := by rcases hk2 with ⟨k2, hk2⟩ | hk2 | ⟨_, _, hk2⟩ <;> cases hk2; rfl
    subst hl
    subst h2
    have hq : min (cnt te.size src.length) (cnt te.size ([] : List Int).length) = 0 := by simp [cnt_eq]
    rw [hq]
    have hsp : splice [] 0 (src.take (mulw te.size 0)) = [] := by simp [splice, mulw_eq]
    rw [hsp]
    have hc := m3 0 (by omega)
    refine ⟨_, w, ρ, .inl ?_, Sub.refl _, fun _ _ => rfl, ?_, Rel.of_c _, ?_⟩
    · have hnm : Nat.min m 0 = 0 := Nat.min_zero m
      simp only [Builtin.copy_, hts0, List.getElem?_toArray, List.getElem?_cons_zero, List.getElem?_cons_succ, Sem.run_bind, run_underlying hu, Result.andThen_ok, m1, hnm, h0.sizeOf, hc, Sem.run_pure]
      rfl
    · show HeapRel F ρ (setH h id (.ints k [])) w
      rw [setH_self hid]; exact hh
    · show Ext (liveM ρ h) w (liveM ρ (setH h id (.ints k []))) w
      rw [setH_self hid]; exact Ext.refl _ _

theorem conv_ok (hty : TyOK P ty) (hh : HeapRel F ρ h w) {s d : Nat} {x : V} {vx : Value} {out : Out} (hx : Rel ρ (av F (liveM ρ h)) w x vx) (hb : convV ty nid s d x h = some (true, out)) (hn : out.new.length = 1 → ρ nid = none) :
    OpOK F ρ h w nid out ((do pure (.value (← convert s d vx)) : Sem Next).run P w) := by
  unfold convV at hb
  split at hb
  · rename_i ts td hs hd
    obtain ⟨us, hus⟩ := (hty _ _ hs).und
    have hud := (hty _ _ hd).tk
    split at hb
    · rename_i k ki n htk
      rw [htk] at hud
      simp only [tkOK] at hud
      have := hx.int; subst this
      have := pureV_out hb; subst this
      exact OpOK.pure hh (v := .int k (k.wrap n)) (by simp [convert, run_underlying hus, run_underlying hud, Conv.intToInt]) (Rel.of_c _)
    · rename_i b htk
      rw [htk] at hud
      simp only [tkOK] at hud
      have := hx.c; subst this
      have := pureV_out hb; subst this
      exact OpOK.pure hh (v := .string b) (by cases us <;> simp [convert, run_underlying hus, run_underlying hud]) (Rel.of_c _)
    · rename_i htk
      rw [htk] at hud
      simp only [tkOK] at hud
      split at hb
      · rename_i e hse
        have hks := (hty _ _ hs).tk
        rw [hse] at hks
        simp only [tkOK] at hks
        split at hb
        · rename_i s0 b0 z0 hte
          have hke := (hty _ _ hte).tk
          simp only [tkOK] at hke
          have := hx.c; subst this
          have := pureV_out hb; subst this
          exact OpOK.pure hh (v := .string ByteArray.empty) (by simp [run_convert_bytes_nil w s e hks hke 0 0 d hud]) (Rel.of_c _)
        · cases hb
      · cases hb
    · rename_i e b htk
      rw [htk] at hud
      simp only [tkOK] at hud
      split at hb
      · rename_i s0 b0 z0 hte
        have hke := (hty _ _ hte).tk
        simp only [tkOK] at hke
        have := hx.c; subst this
        simp only [Option.some.injEq, Prod.mk.injEq, true_and] at hb
        subst hb
        have hcap : b.size ≤ grownCap w b.size 0 e := cut_ge _ _ _ _
        have hus' : P.underlying s = some us := hus
        have hrun : (convert s d (.string b)).run P w = .ok (.slice (some ⟨w.heap.size, 0, none⟩) b.size (grownCap w b.size 0 e)) (Lib.bytesWorld w e b) := Lib.run_convert_string_bytes w s d e b hus hud hke
        have hnew := Lib.bytesWorld_at_new w e b
        have hrow : Lib.bytesCells w e b = bytesRow b (grownCap w b.size 0 e) := rfl
        have hsz : (Lib.bytesCells w e b).size = grownCap w b.size 0 e := by
          have h1 : b.data.size = b.size := rfl
          simp [Lib.bytesCells, h1]; omega
        have hheap : (Lib.bytesWorld w e b).heap = w.heap.push (.cells (Lib.bytesCells w e b) e ((Lib.bytesCells w e b).size, (Lib.bytesCells w e b).size + 1)) := by
          apply Array.ext
          · rw [Lib.bytesWorld_size]; simp
          · intro i h0' h2
            have h1 := h0'
            rw [Lib.bytesWorld_size] at h1
            have e1 : (Lib.bytesWorld w e b).heap[i]? = (w.heap.push (.cells (Lib.bytesCells w e b) e ((Lib.bytesCells w e b).size, (Lib.bytesCells w e b).size + 1)))[i]? := by
              by_cases hi : i = w.heap.size
              · subst hi; rw [hnew]; simp
              · rw [Lib.bytesWorld_at_old w e b i (by omega), Array.getElem?_push, if_neg hi]
            rw [Array.getElem?_eq_getElem h0', Array.getElem?_eq_getElem h2] at e1
            exact Option.some.inj e1
        have hb1 : (intsOfBytes b).length = b.size := by simp [intsOfBytes]
        refine OpOK.made (c := Lib.bytesCells w e b) (n := b.size) hh (hn rfl) (fun i hi => by dsimp only; omega) ?_ hheap (v := .slice (some ⟨w.heap.size, 0, none⟩) b.size (grownCap w b.size 0 e)) (by simp [hrun]) ?_
        · refine ⟨hb1, by omega, fun i hi => ?_⟩
          rw [hb1] at hi
          have h1 : b.data.size = b.size := rfl
          simp only [Lib.bytesCells]
          rw [Array.getElem?_append_left (by simp [h1, hi])]
          simp [intsOfBytes, List.getD_eq_getElem?_getD, h1, hi]
        · intro ρ' M' w'' hp
          simp only [Rel]
          exact ⟨by omega, .inl ⟨_, _, _, grownCap w b.size 0 e, hp, Nat.mod_one _, by rw [Nat.div_one]; exact hcap, by rw [hsz]; omega, by rw [Nat.div_one]⟩⟩
      · cases hb
    · rename_i x htk hn1 hn2
      rw [htk] at hud
      simp only [tkOK] at hud
      split at hb
      · rename_i e hse
        have hks := (hty _ _ hs).tk
        rw [hse] at hks
        simp only [tkOK] at hks
        split at hb
        · rename_i s0 b0 z0 w1 l t1 hte hrow
          have hke := (hty _ _ hte).tk
          simp only [tkOK] at hke
          obtain ⟨hw, hb2⟩ := cond_some hb
          have hw2 := beq_eq hw
          simp only [Option.some.injEq, Prod.mk.injEq, true_and] at hb2
          subst hb2
          clear hb hw
          subst hw2
          obtain ⟨_, a, len, cap, rfl, g1, g2, g3⟩ := rowOf_ok hh hx hrow
          have hrun : (convert s d (.slice a len cap)).run P w = .ok (.string (bytesOfInts l)) w := by
            rcases g3 with g3 | ⟨b, o, g3, g4⟩
            · subst g3
              have hl0 : len = 0 := by simp at g1; omega
              subst hl0
              rw [run_convert_bytes_string w s d e a 0 cap hks hke hud]
              cases a with
              | none => simp [Conv.bytesToString, bytesOfInts]; rfl
              | some a => rw [run_bytesToString w a 0 cap [] (by simp [loadCells, loadCellsFrom])]; simp [bytesOfInts]; rfl
            · subst g3
              exact run_convert_bytes_arg w s e hks hke b o len cap l (by omega) (fun i hi => g4 i (by omega)) d hud
          exact OpOK.pure hh (v := .string (bytesOfInts l)) (by simp [hrun]) (Rel.of_c _)
        · cases hb
      · cases hb
    · cases hb
  · cases hb

end
end Go.Proofs.Ytlofhdoefjmabaa.Ev

/-
  The evaluator's maps: made, read, written. (A text of ours; no condition.)
-/
namespace Go.Proofs.Ytlofhdoefjmabaa.Ev
set_option linter.unusedVariables false
set_option linter.unusedSimpArgs false

section
variable {P : Program} {F : Nat → Prop} {ρ : Rho} {h : Nat → Blk} {w : World} {nid : Nat} {ty : Nat → Option TI}

theorem eqL_iff : ∀ (a b : List Int), eqL a b = true ↔ a = b
  | [], [] => by simp [eqL]
  | [], _ :: _ => by simp [eqL]
  | _ :: _, [] => by simp [eqL]
  | a :: r, b :: s => by simp [eqL, eqL_iff r s]

theorem eqCells_ints {k : IntKind} : ∀ (fs : List (Nat × Nat)) (i n : Nat) (a b : List Int), intF ty fs i n = true → a.length = n → b.length = n →
    eqCells ty fs i (a.map fun x => V.c (.int k x)) (b.map fun x => V.c (.int k x)) = some (eqL a b)
  | [], i, 0, a, b, _, ha, hb => by
    cases a <;> cases b <;> simp_all [eqCells, eqL]
  | [], i, n + 1, _, _, h, _, _ => by simp [intF] at h
  | (t, off) :: r, i, 0, _, _, h, _, _ => by simp [intF] at h
  | (t, off) :: r, i, n + 1, a, b, h, ha, hb => by
    obtain ⟨x, a, rfl⟩ : ∃ x a', a = x :: a' := by cases a <;> simp_all
    obtain ⟨y, b, rfl⟩ : ∃ x a', b = x :: a' := by cases b <;> simp_all
    simp only [intF] at h
    obtain ⟨h1, h2⟩ := two_true h
    obtain ⟨h3, h4⟩ := two_true h2
    have hk : keq k k = true := by cases k <;> decide
    have he : eq1 (ty t) (V.c (.int k x)) (V.c (.int k y)) = some (x == y) := by
      cases ht : ty t with
      | none => rw [ht] at h3; cases h3
      | some ti =>
        obtain ⟨tk, s0, b0, z0⟩ := ti
        rw [ht] at h3
        cases tk <;> simp at h3
        simp [eq1, hk]
    have ih := eqCells_ints (k := k) r (i + 1) n a b h4 (by simpa using ha) (by simpa using hb)
    cases r with
    | nil =>
      cases n with
      | succ n => simp [intF] at h4
      | zero =>
        cases a <;> cases b <;> simp at ha hb
        simp [eqCells, h1, he, eqL]
    | cons f r => simp [eqCells, h1, he, ih, eqL]

theorem RelL.ints {ρ : Rho} {M : Nat → Prop} {k : IntKind} (l : List Int) : RelL ρ M w (l.map fun x => V.c (.int k x)) (l.map (Value.int k)) := by
  have := RelL.consts (ρ := ρ) (M := M) (w := w) (l.map (Value.int k))
  rw [List.map_map] at this
  exact this

/-- Two keys, compared. -/
theorem keys_eq (hty : TyOK P ty) {t n : Nat} {ti : TI} {k : IntKind} (ht : ty t = some ti) (hf : keyFit ty n ti = true) {a b : List Int} (ha : a.length = n) (hb : b.length = n) :
    (Op.equal t (.agg (a.map (Value.int k)).toArray) (.agg (b.map (Value.int k)).toArray)).run P w = .ok (eqL a b) w := by
  obtain ⟨tk, s0, b0, z0⟩ := ti
  cases tk <;> simp only [keyFit, Bool.false_eq_true] at hf
  rename_i fs
  have he : eqStruct ty t (a.map fun x => V.c (.int k x)) (b.map fun x => V.c (.int k x)) = some (eqL a b) := by
    simp only [eqStruct, ht]
    exact eqCells_ints fs 0 n a b hf ha hb
  exact (eqStruct_ok (ρ := fun _ => none) (M := fun _ => False) hty he (by simpa using RelL.ints a) (by simpa using RelL.ints b)).1

theorem run_findAsking_keys (hty : TyOK P ty) {t n : Nat} {ti : TI} {k : IntKind} (ht : ty t = some ti) (hf : keyFit ty n ti = true) {a : List Int} (ha : a.length = n) :
    ∀ (es : List MapEntry) (ks : List (List Int)) (i : Nat), es.length = ks.length → (∀ j, j < ks.length → (ks.getD j []).length = n ∧ ∃ e, es[j]? = some e ∧ e.key = .agg ((ks.getD j []).map (Value.int k)).toArray) →
      (Instr.findAsking t (.agg (a.map (Value.int k)).toArray) es i).run P w = .ok ((mpos a ks i).bind fun j => (es[j - i]?).map fun e => (j, e.val)) w ∧ (∀ j, mpos a ks i = some j → i ≤ j ∧ j - i < ks.length ∧ ks.getD (j - i) [] = a)
  | [], [], i, _, _ => by simp [Instr.findAsking, mpos]
  | [], _ :: _, _, hl, _ => by simp at hl
  | _ :: _, [], _, hl, _ => by simp at hl
  | e :: es, x :: ks, i, hl, he => by
    obtain ⟨h1, e', h2, h3⟩ := he 0 (by simp)
    simp only [List.getD_cons_zero, List.getElem?_cons_zero, Option.some.injEq] at h1 h2 h3
    subst h2
    have hk := keys_eq (P := P) (w := w) (k := k) hty ht hf ha h1
    have ih := run_findAsking_keys hty (k := k) ht hf ha es ks (i + 1) (by simpa using hl) (fun j hj => by
      have := he (j + 1) (by simpa using hj)
      simpa using this)
    simp only [Instr.findAsking, Sem.run_bind, h3, hk, Result.andThen_ok, mpos]
    cases hq : eqL a x with
    | true =>
      have := (eqL_iff a x).1 hq
      simp [this]
    | false =>
      simp only [Bool.false_eq_true, if_false, cond_false]
      obtain ⟨ih1, ih2⟩ := ih
      rw [ih1]
      refine ⟨?_, fun j hj => ?_⟩
      · cases hm : mpos a ks (i + 1) with
        | none => rfl
        | some j =>
          obtain ⟨g1, g2, g3⟩ := ih2 j hm
          have : j - i = (j - (i + 1)) + 1 := by omega
          simp [this]
      · obtain ⟨g1, g2, g3⟩ := ih2 j hj
        have : j - i = (j - (i + 1)) + 1 := by omega
        rw [this]
        simp only [List.length_cons, List.getD_cons_succ]
        exact ⟨by omega, by omega, g3⟩

/-- A key is looked at. -/
theorem checkFields_ok (hty : TyOK P ty) {k : IntKind} (em : Bool) (d : Nat) {a : List Int} : ∀ (fs : List Field) (i n : Nat), intF ty (fs.map fun f => (f.type, f.offset)) i n = true → i + n = a.length →
    (forIn fs PUnit.unit (fun f (r : PUnit) => do
        if f.name ≠ "_" then do Instr.checkKey em (d + 1) f.type (← part f.type (a.map (Value.int k)).toArray f.offset); pure PUnit.unit; pure (ForInStep.yield PUnit.unit)
        else pure (ForInStep.yield PUnit.unit)) : Sem PUnit).run P w = .ok PUnit.unit w
  | [], i, n, _, _ => by simp
  | f :: fs, i, 0, h, _ => by simp [intF] at h
  | f :: fs, i, n + 1, h, hn => by
    simp only [List.map_cons, intF] at h
    obtain ⟨h1, h2⟩ := two_true h
    obtain ⟨h3, h4⟩ := two_true h2
    have ho := beq_eq h1
    have ih := checkFields_ok hty (k := k) em d (a := a) fs (i + 1) n h4 (by omega)
    cases ht : ty f.type with
    | none => rw [ht] at h3; cases h3
    | some ti =>
      obtain ⟨tk, s0, b0, z0⟩ := ti
      rw [ht] at h3
      cases tk <;> simp at h3
      have hu := (hty _ _ ht).tk
      simp only [tkOK] at hu
      have hlt : i < a.length := by omega
      have hp : (part f.type (a.map (Value.int k)).toArray f.offset).run P w = .ok (.int k (a.getD i 0)) w := by
        simp [part, Go.isAgg, run_underlying hu, ho, hlt, List.getD_eq_getElem?_getD]
      have hc : (Instr.checkKey em (d + 1) f.type (.int k (a.getD i 0))).run P w = .ok () w := by
        simp [Instr.checkKey, run_underlying hu]
      by_cases hnm : f.name ≠ "_"
      · simp only [List.forIn_cons, if_pos hnm, Sem.run_bind, hp, hc, Result.andThen_ok, Sem.run_pure]
        exact ih
      · simp only [List.forIn_cons, if_neg hnm, Sem.run_bind, Result.andThen_ok, Sem.run_pure]
        exact ih

theorem checkKey_ok (hty : TyOK P ty) {t n : Nat} {ti : TI} {k : IntKind} (ht : ty t = some ti) (hf : keyFit ty n ti = true) (em : Bool) {a : List Int} (ha : a.length = n) :
    (Instr.checkKey em 10000 t (.agg (a.map (Value.int k)).toArray)).run P w = .ok () w := by
  obtain ⟨tk, s0, b0, z0⟩ := ti
  cases tk <;> simp only [keyFit, Bool.false_eq_true] at hf
  rename_i fs
  have hu := (hty _ _ ht).tk
  simp only [tkOK] at hu
  obtain ⟨fields, h1, h2, _⟩ := hu
  subst h2
  have := checkFields_ok (P := P) (w := w) hty (k := k) em 9998 (a := a) fields.toList 0 n hf (by omega)
  rw [show (10000 : Nat) = 9999 + 1 from rfl, Instr.checkKey]
  simp only [Sem.run_bind, run_underlying h1, Result.andThen_ok]
  rw [← Array.forIn_toList]
  rw [show (forIn fields.toList PUnit.unit fun f (__s : PUnit) => (if f.name ≠ "_" then do
      let x ← part f.type (List.map (Value.int k) a).toArray f.offset
      Instr.checkKey em 9999 f.type x
      pure (ForInStep.yield PUnit.unit)
    else pure (ForInStep.yield PUnit.unit) : Sem (ForInStep PUnit))).run P w = .ok PUnit.unit w from this]
  simp

/-- A map made. -/
theorem HeapRel.allocMap (hh : HeapRel F ρ h w) (hn : ρ nid = none) {k : IntKind} {n : Nat} {c : Col} (hc : c.len = 0) {w' : World} (hkp : Keeps w w') (hw : w'.heap = w.heap.push (.map #[] 0)) :
    HeapRel F (setR ρ nid ⟨some w.heap.size, 0, 0⟩) (setH h nid (.mp k n [] c)) w' ∧ Ext (liveM ρ h) w (liveM (setR ρ nid ⟨some w.heap.size, 0, 0⟩) (setH h nid (.mp k n [] c))) w' := by
  have hnew : w'.heap[w.heap.size]? = some (.map #[] 0) := by rw [hw]; simp
  have hold : ∀ b, b < w.heap.size → w'.heap[b]? = w.heap[b]? := by
    intro b hb; rw [hw, Array.getElem?_push]; split
    · omega
    · rfl
  have hsub : ∀ b, liveM (setR ρ nid ⟨some w.heap.size, 0, 0⟩) (setH h nid (.mp k n [] c)) b → liveM ρ h b ∨ w.heap.size ≤ b := by
    rintro b ⟨j, m, C, hp, hl⟩
    unfold setR at hp; unfold setH at hl
    split at hp
    · simp only [Option.some.injEq, Pl.mk.injEq] at hp
      obtain ⟨h1, _⟩ := hp
      exact .inr (by omega)
    · rename_i hne
      rw [if_neg hne] at hl
      exact .inl ⟨j, m, C, hp, hl⟩
  have hext : Ext (liveM ρ h) w (liveM (setR ρ nid ⟨some w.heap.size, 0, 0⟩) (setH h nid (.mp k n [] c))) w' := ⟨by rw [hw]; simp, fun b hb _ => hold b hb, hsub, hkp⟩
  refine ⟨⟨setR_wf hh.wf (Nat.le_refl _), ?_, ?_, hh.low' hext, hh.out' hext⟩, hext⟩
  · intro j hl
    by_cases hj : j = nid
    · subst hj
      refine ⟨⟨some w.heap.size, 0, 0⟩, by simp [setR], ?_⟩
      have : setH h j (.mp k n [] c) j = .mp k n [] c := by simp [setH]
      rw [this]
      exact ⟨rfl, rfl, by simpa using hc, _, #[], 0, rfl, hnew, by simp, fun i hi => by simp at hi, by simp, by simp, rfl, fun j e he => by simp at he⟩
    · have h1 : setH h nid (.mp k n [] c) j = h j := by simp [setH, hj]
      rw [h1] at hl ⊢
      obtain ⟨p, hp, hb⟩ := hh.rel j hl
      refine ⟨p, by simp [setR, hj, hp], BlkRel.mono (setR_sub hn) hext hb ?_⟩
      intro b hb'
      refine hold b ?_
      obtain ⟨pb, pn, pC⟩ := p
      dsimp only at hb'
      subst hb'
      exact liveM.lt hh ⟨j, pn, pC, hp, hl⟩
  · intro i j b m C m' C' hi hj hpi hpj
    have key : ∀ {l m C}, (setH h nid (.mp k n [] c) l).live → setR ρ nid ⟨some w.heap.size, 0, 0⟩ l = some ⟨some b, m, C⟩ → l ≠ nid → (h l).live ∧ ρ l = some ⟨some b, m, C⟩ ∧ b < w.heap.size := by
      intro l m C hk hpk hne
      have h1 : setH h nid (.mp k n [] c) l = h l := by simp [setH, hne]
      have h2 : setR ρ nid ⟨some w.heap.size, 0, 0⟩ l = ρ l := by simp [setR, hne]
      rw [h1] at hk; rw [h2] at hpk
      exact ⟨hk, hpk, liveM.lt hh ⟨l, m, C, hpk, hk⟩⟩
    have new : ∀ {m C}, setR ρ nid ⟨some w.heap.size, 0, 0⟩ nid = some ⟨some b, m, C⟩ → b = w.heap.size := by
      intro m C hp
      simp [setR] at hp
      omega
    by_cases h1 : i = nid <;> by_cases h2 : j = nid
    · rw [h1, h2]
    · subst h1
      have := new hpi
      have := (key hj hpj h2).2.2
      omega
    · subst h2
      have := new hpj
      have := (key hi hpi h1).2.2
      omega
    · obtain ⟨a1, a2, _⟩ := key hi hpi h1
      obtain ⟨b1, b2, _⟩ := key hj hpj h2
      exact hh.inj i j b m C m' C' a1 b1 a2 b2

/-- A map written. -/
theorem HeapRel.writeMap (hh : HeapRel F ρ h w) {id b n C : Nat} {x : Blk} (hl : (h id).live) (hxl : x.live) (hp : ρ id = some ⟨some b, n, C⟩) {w' : World} (hsz0 : w'.heap.size = w.heap.size ∧ Keeps w w') (hw : ∀ b', b' ≠ b → w'.heap[b']? = w.heap[b']?)
    (hx : ∀ M', (∀ b, M' b → av F (liveM ρ h) b) → BlkRel ρ M' w' ⟨some b, n, C⟩ x) :
    HeapRel F ρ (setH h id x) w' ∧ Ext (liveM ρ h) w (liveM ρ (setH h id x)) w' := by
  have hbM : liveM ρ h b := ⟨id, n, _, hp, hl⟩
  obtain ⟨hsz, hkp⟩ := hsz0
  have lv : ∀ {j}, (setH h id x j).live → (h j).live := by
    intro j hj
    unfold setH at hj
    split at hj
    · rename_i e; subst e; exact hl
    · exact hj
  have hext : Ext (liveM ρ h) w (liveM ρ (setH h id x)) w' := ⟨by omega, fun b' _ hm => hw b' (fun e => hm (e ▸ hbM)), fun b' hb => by
    obtain ⟨j, m, C, h1, h2⟩ := hb
    exact .inl ⟨j, m, C, h1, lv h2⟩, hkp⟩
  refine ⟨⟨hh.wf, ?_, ?_, hh.low' hext, hh.out' hext⟩, hext⟩
  · intro j hj
    by_cases he : j = id
    · subst he
      refine ⟨_, hp, ?_⟩
      have : setH h j x j = x := by simp [setH]
      rw [this]
      exact hx _ (fun b hb => hb.imp id (fun hm => (hext.sub b hm).elim id (fun hz => by
        obtain ⟨i, m, C, h1, h2⟩ := hm
        exact ⟨i, m, C, h1, lv h2⟩)))
    · have h1 : setH h id x j = h j := by simp [setH, he]
      rw [h1] at hj ⊢
      obtain ⟨p, hpj, hb⟩ := hh.rel j hj
      refine ⟨p, hpj, BlkRel.mono (Sub.refl _) hext hb ?_⟩
      intro b' hb'
      refine hw b' (fun e => he ?_)
      subst e
      obtain ⟨pb, pn, pC⟩ := p
      dsimp only at hb'
      subst hb'
      exact hh.inj j id b' _ _ _ _ hj hl hpj hp
  · intro i j b' m C m' C' hi hj
    exact hh.inj i j b' m C m' C' (lv hi) (lv hj)

theorem makeMapV_ok {t : Nat} {out : Out} (hh : HeapRel F ρ h w) (ha : makeMapV ty nid t = some (true, out)) (hn1 : out.new.length = 1 → ρ nid = none) :
    OpOK F ρ h w nid out ((do pure (.value (← Instr.makeMap t none)) : Sem Next).run P w) := by
  unfold makeMapV at ha
  split at ha
  · split at ha
    · split at ha
      · rename_i k c hk hc
        obtain ⟨_, h2⟩ := cond_some ha
        simp only [Option.some.injEq, Prod.mk.injEq, true_and] at h2
        subst h2
        have hcl : c.len = 0 := by
          unfold newCol at hc
          split at hc <;> simp at hc <;> subst hc <;> rfl
        obtain ⟨q1, q2⟩ := HeapRel.allocMap hh (hn1 rfl) (k := k) (n := _) hcl (w' := w.alloc (.map #[] 0)) ⟨rfl, rfl, rfl, Nat.le_refl _⟩ rfl
        refine ⟨.map (some w.heap.size), w.alloc (.map #[] 0), _, .inl ?_, setR_sub (hn1 rfl), fun id hid => ?_, q1, ?_, q2⟩
        · simp [Instr.makeMap]
        · simp at hid
          have : id ≠ nid := by omega
          simp [setR, this]
        · simp only [Rel]
          exact ⟨_, by simp [setR], rfl⟩
      · cases ha
    · cases ha
  · cases ha

theorem keyL_rel {M : Nat → Prop} {k : IntKind} {n : Nat} {x : V} {vx : Value} {l : List Int} (hk : keyL k n x = some l) (hx : Rel ρ M w x vx) : l.length = n ∧ vx = .agg (l.map (Value.int k)).toArray := by
  unfold keyL at hk
  split at hk
  · split at hk
    · rename_i l' hl
      obtain ⟨h1, h2⟩ := cond_some hk
      simp only [Option.some.injEq] at h2
      subst h2
      simp only [Rel] at hx
      obtain ⟨vs, rfl, hr⟩ := hx
      refine ⟨beq_eq h1, ?_⟩
      congr 1
      have : ∀ (cs : List V) (vs : List Value) (l : List Int), asInts k cs = some l → RelL ρ M w cs vs → vs = l.map (Value.int k) := by
        intro cs
        induction cs with
        | nil =>
          intro vs l h1 h2
          cases vs <;> simp [asInts, RelL] at h1 h2
          subst h1; rfl
        | cons c cs ih =>
          intro vs l h1 h2
          cases vs with
          | nil => simp [RelL] at h2
          | cons v vs =>
            simp only [RelL] at h2
            unfold asInts at h1
            split at h1
            · rename_i he; cases he
            · rename_i k' n r he
              simp only [List.cons.injEq] at he
              obtain ⟨rfl, rfl⟩ := he
              obtain ⟨e1, e2⟩ := cond_some h1
              have e1 := keq_eq e1
              subst e1
              simp only [Option.map_eq_some_iff] at e2
              obtain ⟨l', g1, g2⟩ := e2
              subst g2
              have := h2.1.int
              subst this
              simp [ih vs l' g1 h2.2]
            · cases h1
      have h3 := this _ _ _ hl hr
      apply Array.ext'
      simpa using h3
    · cases hk
  · cases hk


theorem getCol_some {l : List Int} {ks : List (List Int)} {vs : Col} {v : V} {j : Nat} (hg : getCol l ks vs = some v) (hm : mpos l ks 0 = some j) : v = .c (colC vs j) := by
  cases vs <;> simp only [getCol, mgetI, mgetB, hm, Option.some.injEq, reduceCtorEq] at hg <;> subst hg <;> rfl

theorem getCol_none {l : List Int} {ks : List (List Int)} {vs : Col} {v : V} {te : TI} {z : Value} (hg : getCol l ks vs = some v) (hm : mpos l ks 0 = none) (hc : colKind te vs = true) (hz : z.cells.toList = te.zero) (hp : plainV z = true) : v = .c z := by
  cases vs with
  | strs l => simp [getCol] at hg
  | ints k l =>
    simp only [getCol, mgetI, hm, Option.some.injEq] at hg
    subst hg
    unfold colKind at hc
    simp only at hc
    split at hc
    · rename_i k1 k2 z0 h1 h2
      obtain ⟨_, hc⟩ := two_true hc
      obtain ⟨hk, hz0⟩ := two_true hc
      rw [h2] at hz
      cases z <;> simp [plainV] at hp <;> simp [Value.cells] at hz
      obtain ⟨rfl, rfl⟩ := hz
      rw [keq_eq hk, eq_of_beq hz0]
    · cases hc
  | bools l =>
    simp only [getCol, mgetB, hm, Option.some.injEq] at hg
    subst hg
    unfold colKind at hc
    simp only at hc
    split at hc
    · rename_i z0 h1 h2
      rw [h2] at hz
      cases z <;> simp [plainV] at hp <;> simp [Value.cells] at hz
      subst hz
      simp at hc
      subst hc
      rfl
    · cases hc

/-- Where a map's key stands. -/
theorem run_find (hty : TyOK P ty) {t n : Nat} {ti : TI} {k : IntKind} (ht : ty t = some ti) (hf : keyFit ty n ti = true) {a : List Int} (ha : a.length = n) {es : Array MapEntry} {ks : List (List Int)} {vs : Col} (hl : es.size = ks.length)
    (he : ∀ j, j < ks.length → (ks.getD j []).length = n ∧ ∃ e, es[j]? = some e ∧ e.key = .agg ((ks.getD j []).map (Value.int k)).toArray ∧ e.val = colC vs j) :
    (Instr.findKey t (.agg (a.map (Value.int k)).toArray) es.toList).run P w = .ok ((mpos a ks 0).map fun j => (j, colC vs j)) w ∧ (∀ j, mpos a ks 0 = some j → j < ks.length ∧ ks.getD j [] = a) := by
  have hu : (match P.underlying t with | some (.array _ _) | some (.struct _) => true | _ => false) = true := by
    obtain ⟨tk, s0, b0, z0⟩ := ti
    cases tk <;> simp only [keyFit, Bool.false_eq_true] at hf
    have hu := (hty _ _ ht).tk
    simp only [tkOK] at hu
    obtain ⟨fields, h1, _⟩ := hu
    rw [h1]
  obtain ⟨h1, h2⟩ := run_findAsking_keys (P := P) (w := w) hty (k := k) ht hf ha es.toList ks 0 (by simpa using hl) (fun j hj => by
    obtain ⟨g1, e, g2, g3, _⟩ := he j hj
    exact ⟨g1, e, by simpa using g2, g3⟩)
  rw [run_findKey_eq w hu, h1]
  refine ⟨?_, fun j hj => ?_⟩
  · cases hm : mpos a ks 0 with
    | none => rfl
    | some j =>
      obtain ⟨_, g1, _⟩ := h2 j hm
      obtain ⟨_, e, g2, _, g3⟩ := he j (by simpa using g1)
      simp [g2, g3]
  · obtain ⟨_, g1, g2⟩ := h2 j hj
    exact ⟨by simpa using g1, by simpa using g2⟩

theorem lookupV_ok {t : Nat} {m i : V} {vm vi : Value} {ok : Bool} {out : Out} (hty : TyOK P ty) (hh : HeapRel F ρ h w) (hm : Rel ρ (av F (liveM ρ h)) w m vm) (hi : Rel ρ (av F (liveM ρ h)) w i vi) (ha : lookupV ty t m i ok h = some (true, out)) :
    OpOK F ρ h w nid out ((do pure (.value (← Instr.lookup t vm vi ok)) : Sem Next).run P w) := by
  unfold lookupV at ha
  split at ha
  · rename_i kt et s0 b0 z0 id ht
    split at ha
    · rename_i k n ks vs tk te hid htk hte
      split at ha
      · rename_i l v hl hv
        obtain ⟨hc, h2⟩ := cond_some ha
        simp only [Option.some.injEq, Prod.mk.injEq, true_and] at h2
        subst h2
        obtain ⟨hc1, hc2⟩ := two_true hc
        rw [hl] at hv
        simp only at hv
        obtain ⟨hln, rfl⟩ := keyL_rel hl hi
        simp only [Rel] at hm
        obtain ⟨b, hp, rfl⟩ := hm
        obtain ⟨_, _, hlen, es, clk, hb, hes, hent, hold, hapart⟩ := hh.ownMap hid hp
        obtain ⟨hf1, hf2⟩ := run_find (P := P) (w := w) hty (k := k) htk hc1 hln hes hent
        have hu := (hty _ _ ht).tk
        simp only [tkOK] at hu
        obtain ⟨hu, i0, z, hi0, hz, hzp⟩ := hu
        have hck := checkKey_ok (P := P) (w := w) hty (k := k) htk hc1 es.isEmpty hln
        have hzc : z.cells.toList = te.zero := by
          obtain ⟨i1, g1, _, _, z1, g2, g3⟩ := (hty _ _ hte).info
          rw [hi0] at g1
          simp only [Option.some.injEq] at g1
          subst g1
          rw [hz] at g2
          simp only [Option.some.injEq] at g2
          subst g2
          exact g3
        have hzv : (Go.zeroValue et).run P w = .ok z w := by simp [Go.zeroValue, Go.typeInfo, hi0, hz]
        have hrun : ∃ u, v = .c u ∧ (Instr.lookup t (.map (some b)) (.agg (l.map (Value.int k)).toArray) ok).run P w = .ok (bif ok then .tuple #[u, .bool (mhas l ks)] else u) w := by
          cases hm : mpos l ks 0 with
          | none =>
            refine ⟨z, getCol_none hv hm hc2 hzc hzp, ?_⟩
            simp only [Instr.lookup, Sem.run_bind, run_underlying hu, Result.andThen_ok, MapKept.run_getObj_map hb, Sem.run_pure, hck, hf1, hm, Option.map_none, hzv, mhas, Option.isSome_none]
            cases ok <;> simp
          | some j =>
            refine ⟨colC vs j, getCol_some hv hm, ?_⟩
            simp only [Instr.lookup, Sem.run_bind, run_underlying hu, Result.andThen_ok, MapKept.run_getObj_map hb, Sem.run_pure, hck, hf1, hm, Option.map_some, mhas, Option.isSome_some]
            cases ok <;> simp
        obtain ⟨u, rfl, hrun⟩ := hrun
        refine OpOK.pure hh (v := bif ok then .tuple #[u, .bool (mhas l ks)] else u) (by simp [hrun]) ?_
        cases ok
        · exact Rel.of_c _
        · simp only [cond_true, Rel]
          exact ⟨_, rfl, by simp [RelL, Rel]⟩
      · cases ha
    · cases ha
  · cases ha

theorem sameBits_ints (k : IntKind) (l : List Int) (n : Nat) : Instr.sameBits (n + 1) (.agg (l.map (Value.int k)).toArray) (.agg (l.map (Value.int k)).toArray) = true := by
  have h : ∀ l : List Int, ((l.map (Value.int k)).zip (l.map (Value.int k))).all (fun x => Instr.sameBits n x.1 x.2) = true := by
    intro l
    induction l with
    | nil => rfl
    | cons a l ih =>
      simp only [List.map_cons, List.zip_cons_cons, List.all_cons, ih, Bool.and_true]
      cases n <;> simp [Instr.sameBits]
  simp only [Instr.sameBits, beq_self_eq_true, Bool.true_and]
  exact h l

theorem keyStays (k : IntKind) (l : List Int) : (Instr.keyThatStays (.agg (l.map (Value.int k)).toArray) (.agg (l.map (Value.int k)).toArray)).run P w = .ok (.agg (l.map (Value.int k)).toArray) w := by
  simp only [Instr.keyThatStays, sameBits_ints k l 9999, if_true, Sem.run_pure]

theorem mput_len {α : Type} {l : List Int} {x : α} {ks : List (List Int)} {vs : List α} (hl : vs.length = ks.length) : (mput l x ks vs).length = (mputK l ks).length := by
  unfold mput mputK mhas
  cases mpos l ks 0 <;> simp [hl]

theorem putCol_rel {M : Nat → Prop} {l : List Int} {ks : List (List Int)} {vs c : Col} {x : V} {vx : Value} (hc : putCol l ks vs x = some c) (hx : Rel ρ M w x vx) (hl : vs.len = ks.length) :
    c.len = (mputK l ks).length ∧ (∀ j, mpos l ks 0 = some j → j < ks.length → colC c j = vx ∧ ∀ i, i ≠ j → colC c i = colC vs i) ∧ (mpos l ks 0 = none → colC c ks.length = vx ∧ ∀ i, i < ks.length → colC c i = colC vs i) := by
  unfold putCol at hc
  split at hc
  · rename_i k vs k' x
    obtain ⟨h1, h2⟩ := cond_some hc
    simp only [Option.some.injEq] at h2
    subst h2
    have := keq_eq h1
    subst this
    have := hx.int
    subst this
    simp only [Col.len] at hl ⊢
    refine ⟨mput_len hl, fun j hj hlt => ?_, fun hj => ?_⟩
    · simp only [mput, hj, colC]
      refine ⟨by simp [List.getD_eq_getElem?_getD, hl, hlt], fun i hi => ?_⟩
      simp only [List.getD_eq_getElem?_getD, List.getElem?_set_ne (Ne.symm hi)]
    · simp only [mput, hj, colC]
      refine ⟨by simp [List.getD_eq_getElem?_getD, ← hl], fun i hi => ?_⟩
      simp only [List.getD_eq_getElem?_getD]
      rw [List.getElem?_append_left (by omega)]
  · rename_i vs x
    simp only [Option.some.injEq] at hc
    subst hc
    have := hx.c
    subst this
    simp only [Col.len] at hl ⊢
    refine ⟨mput_len hl, fun j hj hlt => ?_, fun hj => ?_⟩
    · simp only [mput, hj, colC]
      refine ⟨by simp [List.getD_eq_getElem?_getD, hl, hlt], fun i hi => ?_⟩
      simp only [List.getD_eq_getElem?_getD, List.getElem?_set_ne (Ne.symm hi)]
    · simp only [mput, hj, colC]
      refine ⟨by simp [List.getD_eq_getElem?_getD, ← hl], fun i hi => ?_⟩
      simp only [List.getD_eq_getElem?_getD]
      rw [List.getElem?_append_left (by omega)]
  · cases hc

theorem modify_born (es : Array MapEntry) (j : Nat) (k v : Value) : (es.modify j fun e => { e with key := k, val := v }).toList.map (·.born) = es.toList.map (·.born) := by
  apply List.ext_getElem?
  intro i
  simp only [List.getElem?_map, Array.getElem?_toList, Array.getElem?_modify]
  by_cases hij : j = i
  · subst hij
    cases es[j]? <;> simp
  · simp [hij]

theorem born_push {es : Array MapEntry} (h : ∀ (j : Nat) (e : MapEntry), es[j]? = some e → e.born = j) {x : MapEntry} (hx : x.born = es.size) : ∀ (j : Nat) (e : MapEntry), (es.push x)[j]? = some e → e.born = j := by
  intro j e he
  rw [Array.getElem?_push] at he
  split at he
  · rename_i hj
    simp only [Option.some.injEq] at he
    subst he; rw [hx, hj]
  · exact h j e he
theorem born_modify {es : Array MapEntry} (h : ∀ (j : Nat) (e : MapEntry), es[j]? = some e → e.born = j) {i : Nat} (f : MapEntry → MapEntry) (hf : ∀ e, (f e).born = e.born) : ∀ (j : Nat) (e : MapEntry), (es.modify i f)[j]? = some e → e.born = j := by
  intro j e he
  rw [Array.getElem?_modify] at he
  split at he
  · cases hq : es[j]? with
    | none => rw [hq] at he; cases he
    | some y =>
      rw [hq] at he
      simp only [Option.map_some, Option.some.injEq] at he
      subst he; rw [hf]; exact h j y hq
  · exact h j e he

theorem modify_key (es : Array MapEntry) (j : Nat) (k : Value) : (es.modify j fun e => { e with key := k }).toList.map (·.born) = es.toList.map (·.born) := by
  apply List.ext_getElem?
  intro i
  simp only [List.getElem?_map, Array.getElem?_toList, Array.getElem?_modify]
  by_cases hij : j = i
  · subst hij
    cases es[j]? <;> simp
  · simp [hij]
theorem modify_val (es : Array MapEntry) (j : Nat) (k : Value) : (es.modify j fun e => { e with val := k }).toList.map (·.born) = es.toList.map (·.born) := by
  apply List.ext_getElem?
  intro i
  simp only [List.getElem?_map, Array.getElem?_toList, Array.getElem?_modify]
  by_cases hij : j = i
  · subst hij
    cases es[j]? <;> simp
  · simp [hij]

theorem mapUpdateV_ok {t : Nat} {m i x : V} {vm vi vx : Value} {out : Out} (hty : TyOK P ty) (hh : HeapRel F ρ h w) (hm : Rel ρ (av F (liveM ρ h)) w m vm) (hi : Rel ρ (av F (liveM ρ h)) w i vi) (hx : Rel ρ (av F (liveM ρ h)) w x vx) (ha : mapUpdateV ty t m i x h = some (true, out)) :
    OpOK F ρ h w nid out ((do Instr.mapUpdate t vm vi vx; pure .skip : Sem Next).run P w) := by
  unfold mapUpdateV at ha
  split at ha
  · rename_i kt et s0 b0 z0 id ht
    split at ha
    · rename_i k n ks vs tk hid htk
      split at ha
      · rename_i l hl
        split at ha
        · rename_i c hcol
          obtain ⟨hc1, h2⟩ := cond_some ha
          simp only [Option.some.injEq, Prod.mk.injEq, true_and] at h2
          subst h2
          obtain ⟨hln, rfl⟩ := keyL_rel hl hi
          simp only [Rel] at hm
          obtain ⟨b, hp, rfl⟩ := hm
          obtain ⟨_, _, hlen, es, clk, hb, hes, hent, hold, hapart, hstamp, hborn⟩ := hh.ownMap hid hp
          obtain ⟨hf1, hf2⟩ := run_find (P := P) (w := w) hty (k := k) htk hc1 hln hes hent
          have hu := (hty _ _ ht).tk
          simp only [tkOK] at hu
          obtain ⟨hu, _⟩ := hu
          have hck := checkKey_ok (P := P) (w := w) hty (k := k) htk hc1 false hln
          obtain ⟨p1, p2, p3⟩ := putCol_rel hcol hx hlen
          have hlt : b < w.heap.size := (Array.getElem?_eq_some_iff.mp hb).1
          have fin : ∀ es' clk', (Instr.mapUpdate t (.map (some b)) (.agg (l.map (Value.int k)).toArray) vx).run P w = .ok () { w with heap := w.heap.setIfInBounds b (.map es' clk') } → es'.size = (mputK l ks).length →
              (∀ j, j < (mputK l ks).length → ((mputK l ks).getD j []).length = n ∧ ∃ e, es'[j]? = some e ∧ e.key = .agg (((mputK l ks).getD j []).map (Value.int k)).toArray ∧ e.val = colC c j) → (∀ e ∈ es'.toList, e.born < clk') → (es'.toList.map (·.born)).Nodup → clk' = (mputK l ks).length → (∀ (j : Nat) (e : MapEntry), es'[j]? = some e → e.born = j) →
              OpOK F ρ h w nid { val := undefV, wr := [(id, .mp k n (mputK l ks) c)], touch := [id] } ((do Instr.mapUpdate t (.map (some b)) (.agg (l.map (Value.int k)).toArray) vx; pure .skip : Sem Next).run P w) := by
            intro es' clk' r1 r2 r3 r4 r5 r6 r7
            obtain ⟨q1, q2⟩ := HeapRel.writeMap (w' := { w with heap := w.heap.setIfInBounds b (.map es' clk') }) (x := .mp k n (mputK l ks) c) hh (by rw [hid]; trivial) trivial hp ⟨by simp, ⟨rfl, rfl, rfl, Nat.le_refl _⟩⟩
              (fun b' hb' => (MapKept.heap_set hb).2 b' hb') (fun M' _ => ⟨rfl, rfl, p1, b, es', clk', rfl, (MapKept.heap_set hb).1, r2, r3, r4, r5, r6, r7⟩)
            exact ⟨undef, _, ρ, .inr ⟨by simp [r1], rfl⟩, Sub.refl _, fun _ _ => rfl, q1, Rel.of_c _, q2⟩
          cases hm : mpos l ks 0 with
          | none =>
            obtain ⟨q1, q2⟩ := p3 hm
            have hK : mputK l ks = ks ++ [l] := by simp [mputK, mhas, hm]
            refine fin (es.push { key := .agg (l.map (Value.int k)).toArray, val := vx, born := clk }) (clk + 1) ?_ ?_ ?_ ?_ ?_ (by rw [hK, hstamp]; simp) (born_push hborn (by rw [hstamp, hes]))
            · simp only [Instr.mapUpdate, Sem.run_bind, run_underlying hu, Result.andThen_ok, MapKept.run_getObj_map hb, hck, hf1, hm, Option.map_none, MapKept.run_setObj_map _ hb]
            · simp [hK, hes]
            · intro j hj
              rw [hK] at hj ⊢
              simp only [List.length_append, List.length_singleton] at hj
              by_cases hj2 : j < ks.length
              · obtain ⟨g1, e, g2, g3, g4⟩ := hent j hj2
                have hg : (ks ++ [l]).getD j [] = ks.getD j [] := by simp [List.getD_eq_getElem?_getD, List.getElem?_append_left hj2]
                rw [hg]
                refine ⟨g1, e, ?_, g3, by rw [g4, q2 j hj2]⟩
                rw [Array.getElem?_push, if_neg (by omega)]; exact g2
              · have : j = ks.length := by omega
                subst this
                have hg : (ks ++ [l]).getD ks.length [] = l := by simp [List.getD_eq_getElem?_getD]
                rw [hg]
                exact ⟨hln, _, by rw [Array.getElem?_push, if_pos hes.symm], rfl, q1.symm⟩
            · intro e he
              simp only [Array.toList_push, List.mem_append, List.mem_singleton] at he
              rcases he with he | rfl
              · exact Nat.lt_succ_of_lt (hold e he)
              · exact Nat.lt_succ_self _
            · simp only [Array.toList_push, List.map_append, List.map_cons, List.map_nil]
              refine List.nodup_append.2 ⟨hapart, by simp, ?_⟩
              intro a ha b hb'
              simp only [List.mem_singleton] at hb'
              subst hb'
              obtain ⟨x, hx, rfl⟩ := List.mem_map.1 ha
              exact Nat.ne_of_lt (hold x hx)
          | some j0 =>
            obtain ⟨hj0, hkj0⟩ := hf2 j0 hm
            obtain ⟨q1, q2⟩ := p2 j0 hm hj0
            obtain ⟨g1, e0, g2, g3, g4⟩ := hent j0 hj0
            rw [hkj0] at g3
            have hK : mputK l ks = ks := by simp [mputK, mhas, hm]
            refine fin (es.modify j0 fun e => { e with key := .agg (l.map (Value.int k)).toArray, val := vx }) clk ?_ ?_ ?_ ?_ ?_ (by rw [hK, hstamp]) (born_modify hborn _ (fun _ => rfl))
            · simp only [Instr.mapUpdate, Sem.run_bind, run_underlying hu, Result.andThen_ok, MapKept.run_getObj_map hb, hck, hf1, hm, Option.map_some, g2, Option.getD_some, g3, keyStays, MapKept.run_setObj_map _ hb]
            · simp [hK, hes]
            · intro j hj
              rw [hK] at hj ⊢
              obtain ⟨a1, e, a2, a3, a4⟩ := hent j hj
              refine ⟨a1, ?_⟩
              rw [Array.getElem?_modify]
              by_cases hjj : j0 = j
              · subst hjj
                rw [if_pos rfl, g2]
                exact ⟨_, rfl, by simp only [hkj0], q1.symm⟩
              · rw [if_neg hjj]
                exact ⟨e, a2, a3, by rw [a4, q2 j (Ne.symm hjj)]⟩
            · intro e he
              have := List.mem_map_of_mem (f := (·.born)) he
              rw [modify_born] at this
              obtain ⟨y, hy, e1⟩ := List.mem_map.1 this
              rw [← e1]; exact hold y hy
            · rw [modify_born]; exact hapart
        · cases ha
      · cases ha
    · cases ha
  · cases ha


theorem takeCol_eq {n : Nat} {vs : Col} (h : vs.len = n) : takeCol n vs = vs := by
  cases vs <;> simp only [Col.len] at h <;> simp only [takeCol] <;> rw [List.take_of_length_le (by omega)]

theorem mapEntryV_ok {t : Nat} {m i : V} {vm vi : Value} {out : Out} (hty : TyOK P ty) (hh : HeapRel F ρ h w) (hm : Rel ρ (av F (liveM ρ h)) w m vm) (hi : Rel ρ (av F (liveM ρ h)) w i vi) (ha : mapEntryV ty t m i h = some (true, out)) :
    OpOK F ρ h w nid out ((do pure (.value (← Instr.mapEntry t vm vi)) : Sem Next).run P w) := by
  unfold mapEntryV at ha
  split at ha
  · rename_i kt et s0 b0 z0 id ht
    split at ha
    · rename_i k n ks vs tk te hid htk hte
      split at ha
      · rename_i l v hl hv
        split at ha
        · rename_i c hcol
          obtain ⟨hc, h2⟩ := cond_some ha
          simp only [Option.some.injEq, Prod.mk.injEq, true_and] at h2
          subst h2
          obtain ⟨hc1, hc2⟩ := two_true hc
          rw [hl] at hv
          simp only at hv
          obtain ⟨hln, rfl⟩ := keyL_rel hl hi
          simp only [Rel] at hm
          obtain ⟨b, hp, rfl⟩ := hm
          obtain ⟨_, _, hlen, es, clk, hb, hes, hent, hold, hapart, hstamp, hborn⟩ := hh.ownMap hid hp
          rw [takeCol_eq hlen] at hcol
          obtain ⟨hf1, hf2⟩ := run_find (P := P) (w := w) hty (k := k) htk hc1 hln hes hent
          have hu := (hty _ _ ht).tk
          simp only [tkOK] at hu
          obtain ⟨hu, i0, z, hi0, hz, hzp⟩ := hu
          have hck := checkKey_ok (P := P) (w := w) hty (k := k) htk hc1 false hln
          have hzc : z.cells.toList = te.zero := by
            obtain ⟨i1, g1, _, _, z1, g2, g3⟩ := (hty _ _ hte).info
            rw [hi0] at g1
            simp only [Option.some.injEq] at g1
            subst g1
            rw [hz] at g2
            simp only [Option.some.injEq] at g2
            subst g2
            exact g3
          have hzv : (Go.zeroValue et).run P w = .ok z w := by simp [Go.zeroValue, Go.typeInfo, hi0, hz]
          have hlt : b < w.heap.size := (Array.getElem?_eq_some_iff.mp hb).1
          have fin : ∀ (u : Value) es' clk', v = .c u → (Instr.mapEntry t (.map (some b)) (.agg (l.map (Value.int k)).toArray)).run P w = .ok (.tuple #[u, .int .i64 (stampL l ks)]) { w with heap := w.heap.setIfInBounds b (.map es' clk') } → es'.size = (mputK l ks).length →
              (∀ j, j < (mputK l ks).length → ((mputK l ks).getD j []).length = n ∧ ∃ e, es'[j]? = some e ∧ e.key = .agg (((mputK l ks).getD j []).map (Value.int k)).toArray ∧ e.val = colC c j) → (∀ e ∈ es'.toList, e.born < clk') → (es'.toList.map (·.born)).Nodup → clk' = (mputK l ks).length → (∀ (j : Nat) (e : MapEntry), es'[j]? = some e → e.born = j) → c.len = (mputK l ks).length →
              OpOK F ρ h w nid { val := .tup [v, .c (.int .i64 (stampL l ks))], wr := [(id, .mp k n (mputK l ks) c)], touch := [id] } ((do pure (.value (← Instr.mapEntry t (.map (some b)) (.agg (l.map (Value.int k)).toArray))) : Sem Next).run P w) := by
            intro u es' clk' r0 r1 r2 r3 r4 r5 r6 r7 p1
            obtain ⟨q1, q2⟩ := HeapRel.writeMap (w' := { w with heap := w.heap.setIfInBounds b (.map es' clk') }) (x := .mp k n (mputK l ks) c) hh (by rw [hid]; trivial) trivial hp ⟨by simp, ⟨rfl, rfl, rfl, Nat.le_refl _⟩⟩
              (fun b' hb' => (MapKept.heap_set hb).2 b' hb') (fun M' _ => ⟨rfl, rfl, p1, b, es', clk', rfl, (MapKept.heap_set hb).1, r2, r3, r4, r5, r6, r7⟩)
            refine ⟨.tuple #[u, .int .i64 (stampL l ks)], _, ρ, .inl (by simp [r1]), Sub.refl _, fun _ _ => rfl, q1, ?_, q2⟩
            simp only [Rel]
            exact ⟨_, rfl, by simp [RelL, Rel, r0]⟩
          cases hm : mpos l ks 0 with
          | none =>
            have hvz := getCol_none hv hm hc2 hzc hzp
            obtain ⟨p1, p2, p3⟩ := putCol_rel (ρ := ρ) (M := av F (liveM ρ h)) (w := w) (vx := z) hcol (by rw [hvz]; exact Rel.of_c _) hlen
            obtain ⟨q1, q2⟩ := p3 hm
            have hK : mputK l ks = ks ++ [l] := by simp [mputK, mhas, hm]
            have hS : stampL l ks = (clk : Int) := by simp [stampL, hm, hstamp]
            refine fin z (es.push { key := .agg (l.map (Value.int k)).toArray, val := z, born := clk }) (clk + 1) hvz ?_ ?_ ?_ ?_ ?_ (by rw [hK, hstamp]; simp) (born_push hborn (by rw [hstamp, hes])) p1
            · simp only [Instr.mapEntry, Sem.run_bind, run_underlying hu, Result.andThen_ok, MapKept.run_getObj_map hb, hck, hf1, hm, Option.map_none, hzv, MapKept.run_setObj_map _ hb, Sem.run_pure, hS]
              rfl
            · simp [hK, hes]
            · intro j hj
              rw [hK] at hj ⊢
              simp only [List.length_append, List.length_singleton] at hj
              by_cases hj2 : j < ks.length
              · obtain ⟨g1, e, g2, g3, g4⟩ := hent j hj2
                have hg : (ks ++ [l]).getD j [] = ks.getD j [] := by simp [List.getD_eq_getElem?_getD, List.getElem?_append_left hj2]
                rw [hg]
                refine ⟨g1, e, ?_, g3, by rw [g4, q2 j hj2]⟩
                rw [Array.getElem?_push, if_neg (by omega)]; exact g2
              · have : j = ks.length := by omega
                subst this
                have hg : (ks ++ [l]).getD ks.length [] = l := by simp [List.getD_eq_getElem?_getD]
                rw [hg]
                exact ⟨hln, _, by rw [Array.getElem?_push, if_pos hes.symm], rfl, q1.symm⟩
            · intro e he
              simp only [Array.toList_push, List.mem_append, List.mem_singleton] at he
              rcases he with he | rfl
              · exact Nat.lt_succ_of_lt (hold e he)
              · exact Nat.lt_succ_self _
            · simp only [Array.toList_push, List.map_append, List.map_cons, List.map_nil]
              refine List.nodup_append.2 ⟨hapart, by simp, ?_⟩
              intro a ha b hb'
              simp only [List.mem_singleton] at hb'
              subst hb'
              obtain ⟨x, hx, rfl⟩ := List.mem_map.1 ha
              exact Nat.ne_of_lt (hold x hx)
          | some j0 =>
            have hvz := getCol_some hv hm
            obtain ⟨hj0, hkj0⟩ := hf2 j0 hm
            obtain ⟨p1, p2, p3⟩ := putCol_rel (ρ := ρ) (M := av F (liveM ρ h)) (w := w) (vx := colC vs j0) hcol (by rw [hvz]; exact Rel.of_c _) hlen
            obtain ⟨q1, q2⟩ := p2 j0 hm hj0
            obtain ⟨g1, e0, g2, g3, g4⟩ := hent j0 hj0
            rw [hkj0] at g3
            have hK : mputK l ks = ks := by simp [mputK, mhas, hm]
            have hS : stampL l ks = (j0 : Int) := by simp [stampL, hm]
            have hb0 := hborn j0 e0 g2
            refine fin (colC vs j0) (es.modify j0 fun e => { e with key := .agg (l.map (Value.int k)).toArray }) clk hvz ?_ ?_ ?_ ?_ ?_ (by rw [hK, hstamp]) (born_modify hborn _ (fun _ => rfl)) p1
            · simp only [Instr.mapEntry, Sem.run_bind, run_underlying hu, Result.andThen_ok, MapKept.run_getObj_map hb, hck, hf1, hm, Option.map_some, g2, Option.getD_some, g3, keyStays, MapKept.run_setObj_map _ hb, Sem.run_pure, hS, hb0]
              rfl
            · simp [hK, hes]
            · intro j hj
              rw [hK] at hj ⊢
              obtain ⟨a1, e, a2, a3, a4⟩ := hent j hj
              refine ⟨a1, ?_⟩
              rw [Array.getElem?_modify]
              by_cases hjj : j0 = j
              · subst hjj
                rw [if_pos rfl, g2]
                exact ⟨_, rfl, by simp only [hkj0], by rw [q1]; simp only; rw [g4]⟩
              · rw [if_neg hjj]
                exact ⟨e, a2, a3, by rw [a4, q2 j (Ne.symm hjj)]⟩
            · intro e he
              have hbm : (es.modify j0 fun e => { e with key := .agg (l.map (Value.int k)).toArray }).toList.map (·.born) = es.toList.map (·.born) := modify_key _ _ _
              have := List.mem_map_of_mem (f := (·.born)) he
              rw [hbm] at this
              obtain ⟨y, hy, e1⟩ := List.mem_map.1 this
              rw [← e1]; exact hold y hy
            · have hbm : (es.modify j0 fun e => { e with key := .agg (l.map (Value.int k)).toArray }).toList.map (·.born) = es.toList.map (·.born) := modify_key _ _ _
              rw [hbm]; exact hapart
        · cases ha
      · cases ha
    · cases ha
  · cases ha

theorem setCol_rel {M : Nat → Prop} {q : Nat} {vs c : Col} {x : V} {vx : Value} (hc : setCol q vs x = some c) (hx : Rel ρ M w x vx) : c.len = vs.len ∧ (q < vs.len → colC c q = vx) ∧ ∀ i, i ≠ q → colC c i = colC vs i := by
  unfold setCol at hc
  split at hc
  · obtain ⟨h1, h2⟩ := cond_some hc
    simp only [Option.some.injEq] at h2
    subst h2
    have := keq_eq h1
    subst this
    have := hx.int
    subst this
    refine ⟨by simp [Col.len], fun hq => ?_, fun i hi => ?_⟩
    · simp only [Col.len] at hq
      simp [colC, List.getD_eq_getElem?_getD, hq]
    · simp only [colC, List.getD_eq_getElem?_getD, List.getElem?_set_ne (Ne.symm hi)]
  · simp only [Option.some.injEq] at hc
    subst hc
    have := hx.c
    subst this
    refine ⟨by simp [Col.len], fun hq => ?_, fun i hi => ?_⟩
    · simp only [Col.len] at hq
      simp [colC, List.getD_eq_getElem?_getD, hq]
    · simp only [colC, List.getD_eq_getElem?_getD, List.getElem?_set_ne (Ne.symm hi)]
  · cases hc

theorem entryStoreV_ok {t : TypeId} {m s x : V} {vm vs' vx : Value} {out : Out} (hh : HeapRel F ρ h w) (hm : Rel ρ (av F (liveM ρ h)) w m vm) (hs : Rel ρ (av F (liveM ρ h)) w s vs') (hx : Rel ρ (av F (liveM ρ h)) w x vx) (ha : entryStoreV m s x h = some (true, out)) :
    OpOK F ρ h w nid out ((do Instr.entryStore t vm vs' vx; pure .skip : Sem Next).run P w) := by
  unfold entryStoreV at ha
  split at ha
  · rename_i id q
    split at ha
    · rename_i k n ks vs hid
      split at ha
      · rename_i c hcol
        simp only [Option.some.injEq, Prod.mk.injEq] at ha
        obtain ⟨hq, rfl⟩ := ha
        obtain ⟨hq1, hq2⟩ := two_true hq
        have hq1 := of_decide_eq_true hq1
        have hq2 := of_decide_eq_true hq2
        have := hs.int
        subst this
        simp only [Rel] at hm
        obtain ⟨b, hp, rfl⟩ := hm
        obtain ⟨_, _, hlen, es, clk, hb, hes, hent, hold, hapart, hstamp, hborn⟩ := hh.ownMap hid hp
        obtain ⟨p1, p2, p3⟩ := setCol_rel hcol hx
        have hlt : q.toNat < es.size := by omega
        have hfind : es.findIdx? (fun e => (e.born : Int) == q) = some q.toNat := by
          rw [Array.findIdx?_eq_some_iff_getElem]
          refine ⟨hlt, ?_, fun j hj => ?_⟩
          · have := hborn q.toNat _ (Array.getElem?_eq_getElem hlt)
            simp only [this, beq_iff_eq]; omega
          · have hj2 : j < es.size := by omega
            have := hborn j _ (Array.getElem?_eq_getElem hj2)
            simp only [this, beq_iff_eq]; omega
        have hrun : (Instr.entryStore t (.map (some b)) (.int .i64 q) vx).run P w = .ok () { w with heap := w.heap.setIfInBounds b (.map (es.modify q.toNat fun e => { e with val := vx }) clk) } := by
          have hai : (asInt (.int .i64 q)).run P w = .ok q w := by simp [asInt, asIntOf]
          simp only [Instr.entryStore, Sem.run_bind, MapKept.run_getObj_map hb, Result.andThen_ok, hai, hfind, MapKept.run_setObj_map _ hb]
        have hbm : (es.modify q.toNat fun e => { e with val := vx }).toList.map (·.born) = es.toList.map (·.born) := modify_val _ _ _
        obtain ⟨q1, q2⟩ := HeapRel.writeMap (w' := { w with heap := w.heap.setIfInBounds b (.map (es.modify q.toNat fun e => { e with val := vx }) clk) }) (x := .mp k n ks c) hh (by rw [hid]; trivial) trivial hp ⟨by simp, ⟨rfl, rfl, rfl, Nat.le_refl _⟩⟩
          (fun b' hb' => (MapKept.heap_set hb).2 b' hb') (fun M' _ => ⟨rfl, rfl, by rw [p1]; exact hlen, b, _, clk, rfl, (MapKept.heap_set hb).1, by simpa using hes, fun j hj => by
            obtain ⟨a1, e, a2, a3, a4⟩ := hent j hj
            refine ⟨a1, ?_⟩
            rw [Array.getElem?_modify]
            by_cases hjj : q.toNat = j
            · subst hjj
              rw [if_pos rfl, a2]
              exact ⟨_, rfl, a3, (p2 (by omega)).symm⟩
            · rw [if_neg hjj]
              exact ⟨e, a2, a3, by rw [a4, p3 j (Ne.symm hjj)]⟩, fun e he => by
            have := List.mem_map_of_mem (f := (·.born)) he
            rw [hbm] at this
            obtain ⟨y, hy, e1⟩ := List.mem_map.1 this
            rw [← e1]; exact hold y hy, by rw [hbm]; exact hapart, hstamp, born_modify hborn _ (fun _ => rfl)⟩)
        exact ⟨undef, _, ρ, .inr ⟨by simp [hrun], rfl⟩, Sub.refl _, fun _ _ => rfl, q1, Rel.of_c _, q2⟩
      · cases ha
    · cases ha
  · cases ha

/-- An iterator made. -/
theorem HeapRel.allocIt (hh : HeapRel F ρ h w) (hn : ρ nid = none) {id mb cnt : Nat} (hp : ρ id = some ⟨some mb, 0, 0⟩)
    {w' : World} (hkp : Keeps w w') (hw : w'.heap = w.heap.push (.mapIter (some mb) cnt #[] cnt)) :
    HeapRel F (setR ρ nid ⟨some w.heap.size, 0, 0⟩) (setH h nid (.it (some id) cnt (List.range cnt) cnt)) w' ∧ Ext (liveM ρ h) w (liveM (setR ρ nid ⟨some w.heap.size, 0, 0⟩) (setH h nid (.it (some id) cnt (List.range cnt) cnt))) w' := by
  generalize hxe : Blk.it (some id) cnt (List.range cnt) cnt = x
  have hnew : w'.heap[w.heap.size]? = some (.mapIter (some mb) cnt #[] cnt) := by rw [hw]; simp
  have hold : ∀ b, b < w.heap.size → w'.heap[b]? = w.heap[b]? := by
    intro b hb; rw [hw, Array.getElem?_push]; split
    · omega
    · rfl
  have hsub : ∀ b, liveM (setR ρ nid ⟨some w.heap.size, 0, 0⟩) (setH h nid x) b → liveM ρ h b ∨ w.heap.size ≤ b := by
    rintro b ⟨j, m, C, hp, hl⟩
    unfold setR at hp; unfold setH at hl
    split at hp
    · simp only [Option.some.injEq, Pl.mk.injEq] at hp
      obtain ⟨h1, _⟩ := hp
      exact .inr (by omega)
    · rename_i hne
      rw [if_neg hne] at hl
      exact .inl ⟨j, m, C, hp, hl⟩
  have hext : Ext (liveM ρ h) w (liveM (setR ρ nid ⟨some w.heap.size, 0, 0⟩) (setH h nid x)) w' := ⟨by rw [hw]; simp, fun b hb _ => hold b hb, hsub, hkp⟩
  refine ⟨⟨setR_wf hh.wf (Nat.le_refl _), ?_, ?_, hh.low' hext, hh.out' hext⟩, hext⟩
  · intro j hl
    by_cases hj : j = nid
    · subst hj
      refine ⟨⟨some w.heap.size, 0, 0⟩, by simp [setR], ?_⟩
      have : setH h j x j = x := by simp [setH]
      rw [this]
      subst hxe
      have hid : id ≠ j := by rintro rfl; rw [hn] at hp; cases hp
      refine ⟨rfl, rfl, _, mb, #[], rfl, hnew, fun i hi => ?_, ⟨List.nodup_range, fun i hi => by simpa using hi, fun i hi => by simp [hi], fun hc => by omega⟩⟩
      simp only [Option.some.injEq] at hi
      subst hi
      simp [setR, hid, hp]
    · have h1 : setH h nid x j = h j := by simp [setH, hj]
      rw [h1] at hl ⊢
      obtain ⟨p, hp, hb⟩ := hh.rel j hl
      refine ⟨p, by simp [setR, hj, hp], BlkRel.mono (setR_sub hn) hext hb ?_⟩
      intro b hb'
      refine hold b ?_
      obtain ⟨pb, pn, pC⟩ := p
      dsimp only at hb'
      subst hb'
      exact liveM.lt hh ⟨j, pn, pC, hp, hl⟩
  · intro i j b m C m' C' hi hj hpi hpj
    have key : ∀ {l m C}, (setH h nid x l).live → setR ρ nid ⟨some w.heap.size, 0, 0⟩ l = some ⟨some b, m, C⟩ → l ≠ nid → (h l).live ∧ ρ l = some ⟨some b, m, C⟩ ∧ b < w.heap.size := by
      intro l m C hk hpk hne
      have h1 : setH h nid x l = h l := by simp [setH, hne]
      have h2 : setR ρ nid ⟨some w.heap.size, 0, 0⟩ l = ρ l := by simp [setR, hne]
      rw [h1] at hk; rw [h2] at hpk
      exact ⟨hk, hpk, liveM.lt hh ⟨l, m, C, hpk, hk⟩⟩
    have new : ∀ {m C}, setR ρ nid ⟨some w.heap.size, 0, 0⟩ nid = some ⟨some b, m, C⟩ → b = w.heap.size := by
      intro m C hp
      simp [setR] at hp
      omega
    by_cases h1 : i = nid <;> by_cases h2 : j = nid
    · rw [h1, h2]
    · subst h1
      have := new hpi
      have := (key hj hpj h2).2.2
      omega
    · subst h2
      have := new hpj
      have := (key hi hpi h1).2.2
      omega
    · obtain ⟨a1, a2, _⟩ := key hi hpi h1
      obtain ⟨b1, b2, _⟩ := key hj hpj h2
      exact hh.inj i j b m C m' C' a1 b1 a2 b2

theorem rangeV_ok {t : Nat} {m : V} {vm : Value} {out : Out} (hty : TyOK P ty) (hh : HeapRel F ρ h w) (hm : Rel ρ (av F (liveM ρ h)) w m vm) (ha : rangeV ty nid t m h = some (true, out)) (hn1 : out.new.length = 1 → ρ nid = none) :
    OpOK F ρ h w nid out ((do pure (.value (← Instr.range t vm)) : Sem Next).run P w) := by
  unfold rangeV at ha
  split at ha
  · rename_i kt et s0 b0 z0 id ht
    split at ha
    · rename_i k n ks vs hid
      simp only [Option.some.injEq, Prod.mk.injEq, true_and] at ha
      subst ha
      simp only [Rel] at hm
      obtain ⟨b, hp, rfl⟩ := hm
      obtain ⟨_, _, hlen, es, clk, hb, hent⟩ := hh.ownMap hid hp
      have hst := hent.stamp
      subst hst
      have hu := (hty _ _ ht).tk
      simp only [tkOK] at hu
      have hrun := run_range_map w t _ _ b es ks.length hu.1 hb
      obtain ⟨q1, q2⟩ := HeapRel.allocIt (w' := w.alloc (.mapIter (some b) ks.length #[] ks.length)) hh (hn1 rfl) hp ⟨rfl, rfl, rfl, Nat.le_refl _⟩ rfl
      refine ⟨_, _, _, .inl (by rw [Sem.run_bind, hrun]; rfl), setR_sub (hn1 rfl), fun i hi => ?_, q1, ?_, q2⟩
      · simp at hi
        have : i ≠ nid := by omega
        simp [setR, this]
      · simp only [Rel]
        exact ⟨_, 0, 0, by simp [setR], by omega, rfl⟩
    · cases ha
  · cases ha

theorem intsAt_eq (k : IntKind) (l : List Int) : ∀ (n off : Nat), off + n = l.length → intsAt k l off n = (l.drop off).map fun x => V.c (.int k x)
  | 0, off, h => by simp [intsAt, List.drop_eq_nil_of_le (show l.length ≤ off by omega)]
  | n + 1, off, h => by
    simp only [intsAt]
    rw [intsAt_eq k l n (off + 1) (by omega), List.drop_eq_getElem_cons (show off < l.length by omega), List.map_cons]
    rw [List.getD_eq_getElem?_getD, List.getElem?_eq_getElem (show off < l.length by omega), Option.getD_some]

theorem entryV_ok {m : V} {vm : Value} {out : Out} (hh : HeapRel F ρ h w) (hm : Rel ρ (av F (liveM ρ h)) w m vm) (ha : entryV m h = some (true, out)) :
    OpOK F ρ h w nid out ((do pure (.value (← Instr.entry vm)) : Sem Next).run P w) := by
  unfold entryV at ha
  split at ha
  · rename_i id ext
    split at ha
    · rename_i mid cnt rem cur hid
      split at ha
      · rename_i k n ks vs hmid
        simp only [Option.some.injEq, Prod.mk.injEq] at ha
        obtain ⟨hcb, rfl⟩ := ha
        obtain ⟨hcn0, hc0⟩ := two_true hcb
        have hcn := beq_eq hcn0
        have hc := blt_lt hc0
        subst hcn
        simp only [Rel] at hm
        obtain ⟨b, n', C', hp, _, rfl⟩ := hm
        obtain ⟨_, _, mb, seen, h1, h2, h6⟩ := hh.ownIt hid hp
        obtain ⟨_, _, hlen, es, clk, h4, h5⟩ := hh.ownMap hmid (h2 mid rfl)
        have hst := h5.stamp
        subst hst
        obtain ⟨g1, e, g2, g3, g4⟩ := h5.at_ cur hc
        obtain ⟨seen0, rfl⟩ := h6.last hc
        have hborn := h5.born cur e g2
        have hrun := run_entry_at (P := P) w b mb ks.length seen0 es ks.length e (by rw [hborn]; exact h1) h4 (by rw [Array.mem_toList_iff]; exact Array.mem_of_getElem? g2) h5.apart
        refine OpOK.pure hh (v := .tuple #[e.key, e.val]) (by rw [Sem.run_bind, hrun]; rfl) ?_
        simp only [Rel]
        refine ⟨_, rfl, ?_⟩
        simp only [RelL, and_true]
        refine ⟨?_, ?_⟩
        · rw [g3, intsAt_eq k _ n 0 (by omega)]
          simp only [Rel, List.drop_zero]
          exact ⟨_, rfl, by simpa using RelL.ints _⟩
        · rw [g4]
          cases vs <;> simp [colV, colC, Rel]
      · cases ha
    · cases ha
  · cases ha

/-- A range's step, in the world. -/
theorem next_ok {id ext : Nat} {vm : Value} (hh : HeapRel F ρ h w) (hm : Rel ρ (av F (liveM ρ h)) w (.ptr id 0 ext) vm) {k : IntKind} {n : Nat} {ks : List (List Int)} {vs : Col} {mid cnt : Nat} {rem : List Nat} {cur : Nat} (hid : h id = .it (some mid) cnt rem cur) (hmid : h mid = .mp k n ks vs) (hcn : ks.length = cnt) (ty : TypeId) :
    (rem = [] ∧ (Instr.next vm false ty).run P w = .ok (.tuple #[.bool false]) w) ∨
    ∃ p u1 u2 w', p < rem.length ∧ (Instr.next vm false ty).run P w = .ok (.tuple #[.bool true, u1, u2]) w' ∧ HeapRel F ρ (setH h id (.it (some mid) cnt (rem.eraseIdx p) (rem.getD p 0))) w' ∧ Ext (liveM ρ h) w (liveM ρ (setH h id (.it (some mid) cnt (rem.eraseIdx p) (rem.getD p 0)))) w' := by
  subst hcn
  simp only [Rel] at hm
  obtain ⟨b, n', C', hp, _, rfl⟩ := hm
  obtain ⟨hn0, hC0, mb, seen, h1, h2, h6⟩ := hh.ownIt hid hp
  obtain ⟨_, _, hlen, es, clk, h4, h5⟩ := hh.ownMap hmid (h2 mid rfl)
  have hst := h5.stamp
  subst hst
  have hes := h5.size
  subst hn0; subst hC0
  rcases run_next_at (P := P) w ty b mb ks.length ks.length seen es ks.length h1 h4 h5.old (Nat.le_refl _) with ⟨e0, hrun⟩ | ⟨e, he, w1, hal, hrun⟩
  · left
    refine ⟨?_, hrun⟩
    cases hr : rem with
    | nil => rfl
    | cons j r =>
      exfalso
      have hj : j ∈ rem := by rw [hr]; simp
      have hlt := h6.lt j hj
      have hlt2 : j < es.size := by omega
      have hg : es[j]? = some es[j] := Array.getElem?_eq_getElem hlt2
      have hsj := (h6.iff j hlt).1 hj
      have hbj := h5.born j _ hg
      have hm : es[j] ∈ (leftOf es seen).toList := by
        unfold leftOf
        rw [Array.mem_toList_iff, Array.mem_filter]
        exact ⟨by simp, by rw [hbj, hsj]; rfl⟩
      have : 0 < (leftOf es seen).toList.length := List.length_pos_of_mem hm
      simp at this
      omega
  · right
    obtain ⟨hem, hesn⟩ := mem_left he
    obtain ⟨j, hj⟩ := List.getElem?_of_mem hem
    have hj' : es[j]? = some e := by simpa using hj
    have hjlt : j < ks.length := by have := (Array.getElem?_eq_some_iff.mp hj').1; omega
    have hbe := h5.born j e hj'
    rw [hbe] at hesn
    have hjr : j ∈ rem := (h6.iff j hjlt).2 hesn
    obtain ⟨p, hplt, hpj⟩ := List.getElem_of_mem hjr
    have hpd : rem.getD p 0 = j := by simp [List.getD_eq_getElem?_getD, hplt, hpj]
    have hw1 : w1.heap = w.heap := by rcases hal with rfl | rfl <;> rfl
    have hk1 : Keeps w w1 := by
      rcases hal with rfl | rfl
      · exact .refl _
      · exact ⟨rfl, rfl, rfl, Nat.le_succ _⟩
    have h1' : w1.heap[b]? = some (.mapIter (some mb) ks.length seen ks.length) := by rw [hw1]; exact h1
    have hset := MapKept.heap_set (o' := .mapIter (some mb) ks.length (seen.push e.born) ks.length) h1'
    have hleft : Left ks.length (seen.push e.born) (rem.eraseIdx p) j := by
      rw [hbe]
      refine ⟨(List.eraseIdx_sublist _ _).nodup h6.nodup, fun i hi => h6.lt i ((List.eraseIdx_sublist _ _).subset hi), fun i hi => ?_, fun _ => ⟨seen, rfl⟩⟩
      have hmem : i ∈ rem.eraseIdx p ↔ (i ∈ rem ∧ i ≠ j) := by
        rw [List.mem_eraseIdx_iff_getElem?]
        constructor
        · rintro ⟨q, hqp, hq⟩
          refine ⟨List.mem_of_getElem? hq, fun e1 => hqp ?_⟩
          have hql : q < rem.length := (List.getElem?_eq_some_iff.mp hq).1
          refine (List.getElem?_inj hql h6.nodup).mp ?_
          rw [hq, e1, List.getElem?_eq_getElem hplt, hpj]
        · rintro ⟨hi1, hi2⟩
          obtain ⟨q, hq⟩ := List.getElem?_of_mem hi1
          refine ⟨q, fun e1 => hi2 ?_, hq⟩
          rw [e1, List.getElem?_eq_getElem hplt, hpj] at hq
          exact (Option.some.inj hq).symm
      rw [hmem, h6.iff i hi]
      have hcp : (seen.push j).contains i = (seen.contains i || (i == j)) := by
        rw [Bool.eq_iff_iff]
        simp [Array.contains_iff_mem]
      rw [hcp, Bool.or_eq_false_iff]
      exact and_congr_right fun _ => by rw [beq_eq_false_iff_ne]
    obtain ⟨q1, q2⟩ := HeapRel.writeMap (w' := ChangeMaps.setBlock w1 b (.mapIter (some mb) ks.length (seen.push e.born) ks.length)) (x := .it (some mid) ks.length (rem.eraseIdx p) (rem.getD p 0)) hh (by rw [hid]; trivial) trivial hp ⟨by simp [ChangeMaps.setBlock, hw1], hk1.trans ⟨rfl, rfl, rfl, Nat.le_refl _⟩⟩
      (fun b' hb' => by rw [show (ChangeMaps.setBlock w1 b (.mapIter (some mb) ks.length (seen.push e.born) ks.length)).heap[b']? = w1.heap[b']? from hset.2 b' hb', hw1])
      (fun M' hM' => ⟨rfl, rfl, b, mb, seen.push e.born, rfl, hset.1, h2, by rw [hpd]; exact hleft⟩)
    exact ⟨p, e.key, e.val, _, hplt, hrun, q1, q2⟩

end
end Go.Proofs.Ytlofhdoefjmabaa.Ev

/-
  The evaluator's operations: all of them against the program's own. (A text of ours; no condition.)
-/
namespace Go.Proofs.Ytlofhdoefjmabaa.Ev
set_option linter.unusedVariables false
set_option linter.unusedSimpArgs false

section
variable {P : Program} {F : Nat → Prop} {ρ : Rho} {h : Nat → Blk} {w : World} {nid : Nat} {ty : Nat → Option TI} {ev : Operand → V} {ae : Operand → Value} {out : Out} {M : Nat → Prop}

/-- An operation that leaves the world alone. -/
theorem same_ok {y : V} {tc : List Nat} {v : Value} {s : Sem Value} (hh : HeapRel F ρ h w) (hr : s.run P w = .ok v w) (hv : Rel ρ (av F (liveM ρ h)) w y v) : OpOK F ρ h w nid { val := y, touch := tc } ((do pure (.value (← s)) : Sem Next).run P w) :=
  OpOK.pure hh (v := v) (by simp [hr]) hv

theorem RelL.map_ev (he : ∀ x, Rel ρ M w (ev x) (ae x)) : ∀ (xs : List Operand), RelL ρ M w (xs.map ev) (xs.map ae)
  | [] => by simp [RelL]
  | x :: xs => by simp only [List.map_cons, RelL]; exact ⟨he x, RelL.map_ev he xs⟩

/-- A slice let go and taken as what it holds. -/
theorem rowIn_ok (hh : HeapRel F ρ h w) {e : V} {k : IntKind} {s : Nat} {l : List Int} {kl : List Nat} (hr : rowIn h e = some (k, s, l, kl)) :
    HeapRel F ρ (updW h (kl.map fun i => (i, Blk.dead))) w ∧ Ext (liveM ρ h) w (liveM ρ (updW h (kl.map fun i => (i, Blk.dead)))) w ∧ (∀ id, ¬ (∃ k l, h id = .ints k l) → updW h (kl.map fun i => (i, Blk.dead)) id = h id) ∧ cellOk e = true ∧
    ∀ u, Rel ρ (av F (liveM ρ h)) w e u → Rel ρ (av F (liveM ρ (updW h (kl.map fun i => (i, Blk.dead))))) w (.il k s l) u := by
  unfold rowIn at hr
  split at hr
  · rename_i id s'
    split at hr
    · rename_i k' l' hid
      simp only [Option.some.injEq, Prod.mk.injEq] at hr
      obtain ⟨rfl, rfl, rfl, rfl⟩ := hr
      obtain ⟨q1, q2⟩ := hh.kill id
      have e : updW h ([id].map fun i => (i, Blk.dead)) = setH h id .dead := rfl
      rw [e]
      have hl : (h id).live := by rw [hid]; trivial
      refine ⟨q1, q2, fun j hj => ?_, rfl, fun u hu => ?_⟩
      · unfold setH
        rw [if_neg]
        rintro rfl
        exact hj ⟨_, _, hid⟩
      · obtain ⟨h0, ⟨b, n, C, cap, c, h1, h2, h3, h4, h5, ho, hsz, hold⟩ | ⟨h1, h2, hk⟩⟩ := sw_cells hh hu hl (by rw [hid]; trivial)
        · rw [hid] at hold
          obtain ⟨e1, e2, e3⟩ := hold
          simp only [Rel]
          refine ⟨h0, by rw [e1]; exact h2, .inr ⟨b, 0, cap, by rw [e1]; exact h5, by rw [e1]; exact h3, ho.lt, ?_, fun j hj => ?_⟩⟩
          · rintro (hf | ⟨id2, n2, C2, hp2, hl2⟩)
            · exact hh.out b ⟨id, n, C, h1, hl⟩ hf
            · have hne : id2 ≠ id := by
                rintro rfl
                simp [setH, Blk.live] at hl2
              have hl3 : (h id2).live := by simpa [setH, hne] using hl2
              exact hne (hh.inj id2 id b n2 C2 n C hl3 hl hp2 h1)
          · rw [Nat.zero_add, ho.cell]
            exact e3 j hj
        · rw [hid] at hk
          rcases hk with ⟨k2, hk⟩ | hk | ⟨_, _, hk⟩ <;> cases hk
          simp only [Rel]
          exact ⟨h0, by simp, .inl ⟨trivial, none, h2⟩⟩
    · cases hr
  · simp only [Option.some.injEq, Prod.mk.injEq] at hr
    obtain ⟨rfl, rfl, rfl, rfl⟩ := hr
    exact ⟨hh, Ext.refl _ _, fun _ _ => rfl, rfl, fun u hu => hu⟩
  · cases hr

theorem updW_app : ∀ (a b : List (Nat × Blk)) (h : Nat → Blk), updW h (a ++ b) = updW (updW h a) b
  | [], b, h => by funext j; rfl
  | (i, x) :: a, b, h => by
    funext j
    simp only [List.cons_append, updW]
    rw [updW_app a b]

theorem appendN_ok {ts : Array TypeId} {e : Nat} {te : TI} (hat : AppT P ts e te) (hh : HeapRel F ρ h w) {d s : V} {vd vx : Value} (hd : Rel ρ (av F (liveM ρ h)) w d vd) (hx : Rel ρ (av F (liveM ρ h)) w s vx)
    (ha : appendN te h nid d s = some (true, out)) (hn1 : out.new.length = 1 → ρ nid = none) (t' : TypeId) (cs : Array Bool) :
    OpOK F ρ h w nid out ((builtin .append ts t' cs [vd, vx].toArray).run P w) := by
  have run_eq : ∀ {v : Value} {w' : World}, (Builtin.append_ ts t' #[vd, vx]).run P w = .ok v w' → (builtin .append ts t' cs [vd, vx].toArray).run P w = .ok (.value v) w' := by
    intro v w' h1
    simp [builtin, h1]
  unfold appendN at ha
  split at ha
  · rename_i ids w1
    split at ha
    · rename_i el hids
      split at ha
      · rename_i k s0 l kl hrow
        obtain ⟨hg, ha2⟩ := cond_some ha
        clear ha; have ha := ha2
        obtain ⟨hg1, hg2⟩ := two_true hg
        have hw1 := beq_eq hg1
        have hsz := beq_eq hg2
        subst hw1
        obtain ⟨k1, k2, k3, k4, k5⟩ := rowIn_ok hh hrow
        have hids1 : updW h (kl.map fun i => (i, Blk.dead)) ids = .vals [el] := by
          rw [k3 ids (by rw [hids]; rintro ⟨_, _, h⟩; cases h), hids]
        have hx1 := Rel.mono (Sub.refl ρ) k2 _ _ hx
        have hs1 : srcVals (updW h (kl.map fun i => (i, Blk.dead))) 1 (.sw ids 1) = some ([el], [ids]) := by
          simp [srcVals, rowV, hids1, k4]
        obtain ⟨m, us, m1, m2, m3, m4, m5⟩ := srcVals_ok' (P := P) k1 (by omega) hx1 hs1
        have hul := m3.length
        simp at m2 hul
        subst m2
        obtain ⟨u, rfl⟩ : ∃ u, us = [u] := by
          cases us with
          | nil => simp at hul
          | cons u r => cases r with
            | nil => exact ⟨u, rfl⟩
            | cons _ _ => simp at hul
        -- the slice's value, at first hand
        obtain ⟨m', us', n1, n2, n3, n4, n5⟩ := srcVals_ok' (P := P) hh (by omega) hx (s := 1) (l := [el]) (tc := [ids]) (by simp [srcVals, rowV, hids, k4])
        have hn5 := n5 w rfl
        have hm5 := m5 w rfl
        have hm' : m' = 1 := by simp at n2; exact n2.symm
        subst hm'
        rw [hm5] at hn5
        have hue : us' = [u] := by simpa using hn5.symm
        subst hue
        simp only [RelL] at n3
        have hil := k5 u n3.1
        have hsrc : Src P w te.size 1 vx [u] := ⟨m1, by rw [hsz]; rfl, m4, by rw [hsz]; exact m5⟩
        split at ha
        · simp only [Option.some.injEq, Prod.mk.injEq] at ha
          obtain ⟨g1, g2⟩ := ha
          have := hd.c; subst this; subst g2
          obtain ⟨v, w', ρ', r1, r2, r3, r4, r5, r6⟩ := append_nil hat t' k1 (hn1 rfl) hsrc g1 (x := .nl k s0 [l]) (fun e => by cases e) (fun c a1 a2 => by
            refine ⟨rfl, a1, ?_⟩
            have : c.toList.take 1 = [u] := by
              have h0 := a2 0 (by simp)
              cases c with | mk cl => cases cl with
                | nil => simp at h0
                | cons y r => simpa using h0
            simp only [List.length_singleton, this, List.map_cons, List.map_nil, RelL]
            exact ⟨hil, trivial⟩)
          rw [hsz] at r5
          exact ⟨v, w', ρ', .inl (run_eq r1), r2, fun id hid => r3 id (by simp at hid; omega), r4, r5, k2.trans r6⟩
        · rename_i id w2
          split at ha
          · rename_i k' w' rows hid
            obtain ⟨hq, ha2⟩ := cond_some ha
            clear ha; have ha := ha2
            obtain ⟨hq, hq3⟩ := two_true hq
            obtain ⟨hq1, hq2⟩ := two_true hq
            have hq1 := keq_eq hq1
            have hq2 := beq_eq hq2
            have hq3 := beq_eq hq3
            subst hq1; subst hq2; subst hq3
            simp only [Option.some.injEq, Prod.mk.injEq] at ha
            obtain ⟨g1, g2⟩ := ha
            subst g2
            have hd1 := Rel.mono (Sub.refl ρ) k2 _ _ hd
            have hid1 : updW h (kl.map fun i => (i, Blk.dead)) id = .nl k s0 rows := by
              rw [k3 id (by rw [hid]; rintro ⟨_, _, h⟩; cases h), hid]
            have eo : ∀ x : Blk, outH h nid { val := .sw nid 1, wr := (kl.map fun i => (i, Blk.dead)) ++ [(id, .dead)], new := [x], touch := id :: ids :: kl } = setH (setH (updW h (kl.map fun i => (i, Blk.dead))) id .dead) nid x := by
              intro x
              unfold outH
              rw [updW_app]; rfl
            unfold OpOK
            rw [eo]
            obtain ⟨_, ⟨b, n, C, cap, c, h1, h2, h3, h4, h5, ho, hszc, hold⟩ | ⟨h1, h2, hk⟩⟩ := sw_cells k1 hd1 (by rw [hid1]; trivial) (by rw [hid1]; trivial)
            · subst h5
              rw [hid1] at hold
              obtain ⟨a1, a2, a3⟩ := hold
              obtain ⟨v, w', ρ', r1, r2, r3, r4, r5, r6⟩ := append_row hat t' k1 (hn1 rfl) hsrc (by rw [hid1]; trivial) h1 (by rw [hsz]; exact h2) (by rw [hsz]; exact h3) (by rw [hsz]; exact h4) ho hszc (by omega) (by rw [hsz, Nat.div_one]; rw [← a1]; exact g1) (x := .nl k s0 (rows ++ [l])) (fun c' b1 b2 b3 => by
                refine ⟨by simp; omega, b1, ?_⟩
                have e : c'.toList.take (n + [u].length) = c.toList.take n ++ [u] := by
                  apply List.ext_getElem?
                  intro j
                  by_cases hj : j < n + 1
                  · rw [List.getElem?_take_of_lt (by simpa using hj), Array.getElem?_toList]
                    by_cases h : j < n
                    · rw [b2 j h, List.getElem?_append_left (by simp; omega), List.getElem?_take_of_lt h, Array.getElem?_toList]
                    · have e : j = n := by omega
                      subst e
                      have h0 := b3 0 (by simp)
                      rw [Nat.add_zero] at h0
                      have hlen : (c.toList.take j).length = j := by simp; omega
                      rw [h0, List.getElem?_append_right (by omega), hlen, Nat.sub_self]
                  · rw [List.getElem?_eq_none (by simp; omega), List.getElem?_eq_none (by simp; omega)]
                rw [e, List.map_append]
                exact a3.append (by simp only [List.map_cons, List.map_nil, RelL]; exact ⟨hil, trivial⟩))
              rw [hsz] at r5 r1
              exact ⟨v, w', ρ', .inl (run_eq r1), r2, fun id hid => r3 id (by simp at hid; omega), r4, r5, k2.trans r6⟩
            · rw [hid1] at hk
              have hl : rows = [] := by rcases hk with ⟨_, hk⟩ | hk | ⟨_, _, hk⟩ <;> cases hk; rfl
              subst hl
              subst h2
              obtain ⟨z1, z2⟩ := k1.kill id
              obtain ⟨v, w', ρ', r1, r2, r3, r4, r5, r6⟩ := append_nil hat t' z1 (hn1 rfl) hsrc g1 (x := .nl k s0 ([] ++ [l])) (fun e => by cases e) (fun c a1 a2 => by
                refine ⟨rfl, a1, ?_⟩
                have : c.toList.take 1 = [u] := by
                  have h0 := a2 0 (by simp)
                  cases c with | mk cl => cases cl with
                    | nil => simp at h0
                    | cons y r => simpa using h0
                simp only [List.length_singleton, this, List.nil_append, List.map_cons, List.map_nil, RelL]
                exact ⟨Rel.mono (Sub.refl ρ) z2 _ _ hil, trivial⟩)
              rw [hsz] at r5
              exact ⟨v, w', ρ', .inl (run_eq r1), r2, fun id hid => r3 id (by simp at hid; omega), r4, r5, (k2.trans z2).trans r6⟩
          · cases ha
        · cases ha
      · cases ha
    · cases ha
  · cases ha

theorem appendV_ok {ts : Array TypeId} {e : Nat} {te : TI} (hat : 0 < te.bytes → 0 < te.size → AppT P ts e te) (hh : HeapRel F ρ h w) {d s : V} {vd vx : Value} (hd : Rel ρ (av F (liveM ρ h)) w d vd) (hx : Rel ρ (av F (liveM ρ h)) w s vx)
    (ha : appendV te h nid d s = some (true, out)) (hn1 : out.new.length = 1 → ρ nid = none) (t' : TypeId) (cs : Array Bool) :
    OpOK F ρ h w nid out ((builtin .append ts t' cs [vd, vx].toArray).run P w) := by
  have run_eq : ∀ {v : Value} {w' : World}, (Builtin.append_ ts t' #[vd, vx]).run P w = .ok v w' → (builtin .append ts t' cs [vd, vx].toArray).run P w = .ok (.value v) w' := by
    intro v w' h1
    simp [builtin, h1]
  unfold appendV at ha
  cases hbs : (Nat.blt 0 te.bytes && Nat.blt 0 te.size) with
  | false => simp [hbs] at ha
  | true =>
  simp only [hbs, Bool.not_true, cond_false] at ha
  obtain ⟨hb, hsz⟩ := two_true hbs
  have hb := blt_lt hb
  have hsz := blt_lt hsz
  have hat := hat hb hsz
  -- the two ends
  have fin0 : ∀ {x : Blk} {us : List Value} {m : Nat} {tc : List Nat}, vd = .slice none 0 0 → out = { val := .sw nid te.size, new := [x], touch := tc } → Src P w te.size m vx us → roomy m te.bytes = true → (us = [] → (∃ k, x = .ints k []) ∨ x = .vals [] ∨ (∃ k s, x = .nl k s [])) →
      (∀ c : Array Value, us.length ≤ c.size → (∀ j, j < us.length → c[j]? = us[j]?) → Holds ρ (av F (liveM ρ h)) w us.length c x) → OpOK F ρ h w nid out ((builtin .append ts t' cs [vd, vx].toArray).run P w) := by
    intro x us m tc hv hout hs hroom hx0 hxx
    subst hout
    obtain ⟨v, w', ρ', r1, r2, r3, r4, r5, r6⟩ := append_nil hat t' hh (hn1 rfl) hs hroom hx0 hxx
    subst hv
    exact ⟨v, w', ρ', .inl (run_eq r1), r2, fun id hid => r3 id (by simp at hid; omega), r4, r5, r6⟩
  have fin1 : ∀ {x : Blk} {us : List Value} {m : Nat} {tc : List Nat} {id : Nat}, Rel ρ (av F (liveM ρ h)) w (.sw id te.size) vd → (h id).live → (h id).flat → out = { val := .sw nid te.size, wr := [(id, .dead)], new := [x], touch := tc } → Src P w te.size m vx us →
      (∀ n : Nat, (∀ {c}, Holds ρ (av F (liveM ρ h)) w n c (h id) → roomy (n / te.size + m) te.bytes = true ∧
        ∀ c c' : Array Value, Holds ρ (av F (liveM ρ h)) w n c (h id) → n + us.length ≤ c'.size → (∀ j, j < n → c'[j]? = c[j]?) → (∀ j, j < us.length → c'[n + j]? = us[j]?) → Holds ρ (av F (liveM ρ h)) w (n + us.length) c' x)) →
      ((∃ k, h id = .ints k []) ∨ h id = .vals [] ∨ (∃ k s, h id = .nl k s []) → roomy m te.bytes = true ∧ (us = [] → (∃ k, x = .ints k []) ∨ x = .vals [] ∨ (∃ k s, x = .nl k s [])) ∧ (∀ c : Array Value, us.length ≤ c.size → (∀ j, j < us.length → c[j]? = us[j]?) → Holds ρ (av F (liveM ρ h)) w us.length c x)) →
      OpOK F ρ h w nid out ((builtin .append ts t' cs [vd, vx].toArray).run P w) := by
    intro x us m tc id hrel hl hfl hout hs hrow hemp
    subst hout
    obtain ⟨_, ⟨b, n, C, cap, c, h1, h2, h3, h4, h5, ho, hszc, hold⟩ | ⟨h1, h2, hk⟩⟩ := sw_cells hh hrel hl hfl
    · obtain ⟨q1, q2⟩ := hrow n hold
      subst h5
      obtain ⟨v, w', ρ', r1, r2, r3, r4, r5, r6⟩ := append_row hat t' hh (hn1 rfl) hs hl h1 h2 h3 h4 ho hszc (by have := hold.le; omega) q1 (x := x) (fun c' a1 a2 a3 => q2 c c' hold a1 a2 a3)
      exact ⟨v, w', ρ', .inl (run_eq r1), r2, fun id hid => r3 id (by simp at hid; omega), r4, r5, r6⟩
    · obtain ⟨q1, q2, q3⟩ := hemp hk
      subst h2
      obtain ⟨k1, k2⟩ := hh.kill id
      obtain ⟨v, w', ρ', r1, r2, r3, r4, r5, r6⟩ := append_nil hat t' k1 (hn1 rfl) hs q1 q2 (fun c a1 a2 => (q3 c a1 a2).mono (Sub.refl _) k2)
      exact ⟨v, w', ρ', .inl (run_eq r1), r2, fun id hid => r3 id (by simp at hid; omega), r4, r5, k2.trans r6⟩
  split at ha
  · rename_i k hk
    split at ha
    · cases ha
    · rename_i src tc hs
      obtain ⟨m, m1, m2, m3⟩ := srcInts_ok' (P := P) hh hsz hx hs
      have hsrc : Src P w te.size m vx (src.map (Value.int k)) := ⟨m1, by simpa using m2, toList_all _, m3⟩
      have hcells : ∀ c : Array Value, (src.map (Value.int k)).length ≤ c.size → (∀ j, j < (src.map (Value.int k)).length → c[j]? = (src.map (Value.int k))[j]?) → Holds ρ (av F (liveM ρ h)) w (src.map (Value.int k)).length c (.ints k src) := by
        intro c a1 a2
        refine ⟨by simp, a1, fun i hi => ?_⟩
        rw [a2 i (by simpa using hi), getD_map k src hi]
      split at ha
      · simp only [Option.some.injEq, Prod.mk.injEq] at ha
        obtain ⟨g1, g2⟩ := ha
        rw [cnt_eq, m2, div_of_mul hsz] at g1
        exact fin0 hd.c g2.symm hsrc g1 (fun e => .inl ⟨k, by simp at e; rw [e]⟩) hcells
      · rename_i id s1
        split at ha
        · rename_i k' l hid
          obtain ⟨h1, h2⟩ := cond_some ha
          obtain ⟨h3, h4⟩ := two_true h1
          have h3 := keq_eq h3
          have h4 := beq_eq h4
          subst h3; subst h4
          simp only [Option.some.injEq, Prod.mk.injEq] at h2
          obtain ⟨g1, g2⟩ := h2
          rw [cnt_eq] at g1
          refine fin1 hd (by rw [hid]; trivial) (by rw [hid]; trivial) g2.symm hsrc (fun n {c} hc => ?_) (fun hk2 => ?_)
          · rw [hid] at hc
            have e1 := hc.len
            refine ⟨by rw [e1, m2, Nat.add_mul_div_right _ _ hsz] at g1; exact g1, fun c c' a0 a1 a2 a3 => ?_⟩
            rw [hid] at a0
            exact a0.grow_ints (by simp) a1 a2 (fun j hj => by rw [a3 j hj, getD_map k src (by simpa using hj)])
          · rw [hid] at hk2
            have hl : l = [] := by rcases hk2 with ⟨k2, hk2⟩ | hk2 | ⟨_, _, hk2⟩ <;> cases hk2; rfl
            subst hl
            refine ⟨by simpa [m2, div_of_mul hsz] using g1, fun e => .inl ⟨k, by simp at e; rw [e]; rfl⟩, by simpa using hcells⟩
        · cases ha
      · cases ha
  · cases hsl : te.isSl <;> rw [hsl] at ha <;> simp only [cond_true, cond_false] at ha
    rotate_left
    · exact appendN_ok hat hh hd hx ha hn1 t' cs
    split at ha
    · cases ha
    · rename_i src tc hs
      obtain ⟨m, us, m1, m2, m3, m4, m5⟩ := srcVals_ok' (P := P) hh hsz hx hs
      have hul := m3.length
      have hsrc : Src P w te.size m vx us := ⟨m1, by omega, m4, m5⟩
      have hcells : ∀ c : Array Value, us.length ≤ c.size → (∀ j, j < us.length → c[j]? = us[j]?) → Holds ρ (av F (liveM ρ h)) w us.length c (.vals src) := by
        intro c a1 a2
        refine ⟨hul, a1, ?_⟩
        have : c.toList.take us.length = us := by
          apply List.ext_getElem?
          intro j
          by_cases hj : j < us.length
          · rw [List.getElem?_take_of_lt hj, Array.getElem?_toList, a2 j hj]
          · rw [List.getElem?_eq_none (by simp; omega), List.getElem?_eq_none (by omega)]
        rw [this]; exact m3
      have hemp : us = [] → (∃ k, Blk.vals src = .ints k []) ∨ Blk.vals src = .vals [] ∨ (∃ k s, Blk.vals src = .nl k s []) := fun e => .inr (.inl (by
        subst e; simp at hul; rw [hul]))
      split at ha
      · simp only [Option.some.injEq, Prod.mk.injEq] at ha
        obtain ⟨g1, g2⟩ := ha
        rw [cnt_eq, m2, div_of_mul hsz] at g1
        exact fin0 hd.c g2.symm hsrc g1 hemp hcells
      · rename_i id s1
        split at ha
        · rename_i l hid
          obtain ⟨h1, h2⟩ := cond_some ha
          have h4 := beq_eq h1
          subst h4
          simp only [Option.some.injEq, Prod.mk.injEq] at h2
          obtain ⟨g1, g2⟩ := h2
          rw [cnt_eq] at g1
          refine fin1 hd (by rw [hid]; trivial) (by rw [hid]; trivial) g2.symm hsrc (fun n {c} hc => ?_) (fun hk2 => ?_)
          · rw [hid] at hc
            have e1 := hc.lenV
            refine ⟨by rw [e1, m2, Nat.add_mul_div_right _ _ hsz] at g1; exact g1, fun c c' a0 a1 a2 a3 => ?_⟩
            rw [hid] at a0
            exact a0.grow_vals m3 rfl a1 a2 a3
          · rw [hid] at hk2
            have hl : l = [] := by rcases hk2 with ⟨k2, hk2⟩ | hk2 | ⟨_, _, hk2⟩ <;> cases hk2; rfl
            subst hl
            refine ⟨by simpa [m2, div_of_mul hsz] using g1, by simpa using hemp, by simpa using hcells⟩
        · cases ha
      · cases ha

theorem max2_int (k : IntKind) (a b : Int) : Builtin.max2 (.int k a) (.int k b) = pure (.int k (mx2 a b)) := rfl
theorem min2_int (k : IntKind) (a b : Int) : Builtin.min2 (.int k a) (.int k b) = pure (.int k (mn2 a b)) := rfl

theorem builtin_ok (hty : TyOK P ty) (hh : HeapRel F ρ h w) {b : Builtin} {ts : Array TypeId} {xs : List V} {vs : List Value} (hr : RelL ρ (av F (liveM ρ h)) w xs vs) (ha : builtinV ty nid b ts.toList xs h = some (true, out)) (hn1 : out.new.length = 1 → ρ nid = none) (t' : TypeId) (cs : Array Bool) :
    OpOK F ρ h w nid out ((builtin b ts t' cs vs.toArray).run P w) := by
  unfold builtinV at ha
  split at ha
  · -- len
    rename_i x
    split at ha
    · rename_i t r hts
      split at ha
      · rename_i ti n tc ht hl
        obtain ⟨h1, h2⟩ := cond_some ha
        simp only [Option.some.injEq, Prod.mk.injEq, true_and] at h2
        subst h2
        cases vs with
        | nil => simp [RelL] at hr
        | cons v vs =>
          cases vs with
          | cons _ _ => simp [RelL] at hr
          | nil =>
            simp only [RelL] at hr
            have hts0 : ts[0]? = some t := by
              have : ts.toList[0]? = some t := by rw [hts]; rfl
              simpa using this
            have := len_ok (P := P) hty hh ht hr.1 hl h1 ts hts0 t'
            exact OpOK.pure hh (v := .int .i64 n) (by simp [builtin, this]) (Rel.of_c _)
      · cases ha
    · cases ha
  · obtain ⟨x, r, v, h1, h2, h3⟩ := minmax_ok (P := P) max2_int ha hr
    subst h1; subst h2
    exact OpOK.pure hh (v := v) (by simp [builtin, Builtin.max_, h3]) (Rel.of_c _)
  · obtain ⟨x, r, v, h1, h2, h3⟩ := minmax_ok (P := P) min2_int ha hr
    subst h1; subst h2
    exact OpOK.pure hh (v := v) (by simp [builtin, Builtin.min_, h3]) (Rel.of_c _)
  · -- append
    rename_i d s
    cases vs with
    | nil => simp [RelL] at hr
    | cons vd vs =>
      cases vs with
      | nil => simp [RelL] at hr
      | cons vx vs =>
        cases vs with
        | cons _ _ => simp [RelL] at hr
        | nil =>
          simp only [RelL] at hr
          obtain ⟨hd, hx, _⟩ := hr
          split at ha
          · rename_i t t2 r hts
            have hts0 : ts[0]? = some t := by
              have : ts.toList[0]? = some t := by rw [hts]; rfl
              simpa using this
            have hts1 : ts[1]? = some t2 := by
              have : ts.toList[1]? = some t2 := by rw [hts]; rfl
              simpa using this
            split at ha
            · rename_i e s0 b0 z0 tt2 ht ht2
              have hu := (hty _ _ ht).tk
              simp only [tkOK] at hu
              have key : ((∃ x, tt2.tk = .slice x) ∨ tt2.tk = .str) → (match ty e with | some ti => appendV ti h nid d s | none => none) = some (true, out) → OpOK F ρ h w nid out ((builtin .append ts t' cs [vd, vx].toArray).run P w) := by
                intro htk2 ha
                split at ha
                · rename_i te hte
                  have hat : 0 < te.bytes → 0 < te.size → AppT P ts e te := fun hb hs => by
                    refine ⟨⟨t, hts0, hu⟩, ?_, hty _ _ hte, hb, hs⟩
                    have hk2 := (hty _ _ ht2).tk
                    rcases htk2 with ⟨x, htk2⟩ | htk2 <;> rw [htk2] at hk2 <;> simp only [tkOK] at hk2
                    · exact ⟨t2, _, hts1, hk2, .inl ⟨x, rfl⟩⟩
                    · exact ⟨t2, _, hts1, hk2, .inr rfl⟩
                  exact appendV_ok hat hh hd hx ha hn1 t' cs
                · cases ha
              split at ha
              · rename_i y hy; exact key (.inl ⟨y, hy⟩) ha
              · rename_i hy; exact key (.inr hy) ha
              · cases ha
            · cases ha
          · cases ha
  · -- copy
    rename_i d s
    cases vs with
    | nil => simp [RelL] at hr
    | cons vd vs =>
      cases vs with
      | nil => simp [RelL] at hr
      | cons vx vs =>
        cases vs with
        | cons _ _ => simp [RelL] at hr
        | nil =>
          simp only [RelL] at hr
          obtain ⟨hd, hx, _⟩ := hr
          split at ha
          · rename_i t r hts
            have hts0 : ts[0]? = some t := by
              have : ts.toList[0]? = some t := by rw [hts]; rfl
              simpa using this
            split at ha
            · rename_i e s0 b0 z0 ht
              have hu := (hty _ _ ht).tk
              simp only [tkOK] at hu
              split at ha
              · rename_i te hte
                unfold copyV at ha
                split at ha
                · cases ha
                · rename_i k hk
                  split at ha
                  · cases ha
                  · rename_i src tc hs
                    split at ha
                    · rename_i id s1
                      split at ha
                      · rename_i k' l hid
                        obtain ⟨h1, h2⟩ := cond_some ha
                        obtain ⟨h3, h4⟩ := two_true h1
                        have h3 := keq_eq h3
                        have h4 := beq_eq h4
                        subst h3; subst h4
                        simp only [Option.some.injEq, Prod.mk.injEq, true_and] at h2
                        subst h2
                        exact copy_ok hty hh hts0 hu hte t' hk hs hx hd hid
                      · cases ha
                    · cases ha
              · cases ha
            · cases ha
          · cases ha
  · cases ha

theorem act_ok (hty : TyOK P ty) (hh : HeapRel F ρ h w) (he : ∀ x, Rel ρ (av F (liveM ρ h)) w (ev x) (ae x)) (hn : ∀ id, nid ≤ id → id < nid + out.new.length → ρ id = none) (op : Op) (o : Oper) (hop : o.op = op) (ha : act ty nid op ev h = some (true, out)) :
    OpOK F ρ h w nid out ((execOp ae o).run P w) := by
  have hn1 : out.new.length = 1 → ρ nid = none := fun h => hn nid (Nat.le_refl _) (by omega)
  unfold execOp
  rw [hop]
  cases op
  case move x =>
    have := pureV_out ha; subst this
    exact OpOK.pure hh rfl (he x)
  case assign x =>
    have := pureV_out ha; subst this
    exact OpOK.pure hh rfl (he x)
  case pick c a b =>
    simp only [act] at ha
    split at ha
    · rename_i b' hc
      have := pureV_out ha; subst this
      have h1 := he c
      rw [hc] at h1
      have := h1.bool
      exact OpOK.pure hh (v := if b' then ae a else ae b) (by simp [this, asBool]) (pick_ok (he a) (he b))
    · cases ha
  case alloc t =>
    simp only [act] at ha
    split at ha
    · rename_i ti ht
      simp only [Option.some.injEq, Prod.mk.injEq, true_and] at ha
      subst ha
      exact alloc_ok (hty _ _ ht) hh (hn1 rfl)
    · cases ha
  case box t x =>
    simp only [act] at ha
    split at ha
    · rename_i ti ht
      split at ha
      · rename_i vs hvs
        obtain ⟨h1, h2⟩ := cond_some ha
        simp only [Option.some.injEq, Prod.mk.injEq, true_and] at h2
        subst h2
        exact box_ok hh (hn1 rfl) (he x) hvs (beq_eq h1)
      · cases ha
    · cases ha
  case build t ps =>
    simp only [act] at ha
    split at ha
    · rename_i ti ht
      have key : ∀ cs, ((∃ fs, ti.tk = .struct fs ∧ fs.all (fun p => (ty p.1).isSome) = true ∧ fillV (fieldOf ty fs) (zeroV ti) (ps.toList.map fun p => (p.1, ev p.2)) = some cs) ∨
          (∃ n e te, ti.tk = .arr n e ∧ ty e = some te ∧ fillV (fun i => some (i * te.size, te.size)) (zeroV ti) (ps.toList.map fun p => (p.1, ev p.2)) = some cs)) → out = { val := .agg cs } → OpOK F ρ h w nid out ((do pure (.value (← Instr.build t (ps.map fun (i, x) => (i, ae x)))) : Sem Next).run P w) := by
        intro cs hb hout
        subst hout
        obtain ⟨v, h1, h2⟩ := build_ok (P := P) hty ht he hb
        exact same_ok (nid := nid) (tc := []) hh h1 h2
      split at ha
      · rename_i fs htk
        obtain ⟨h1, h2⟩ := cond_some ha
        split at h2
        · rename_i cs hf
          exact key cs (.inl ⟨fs, htk, h1, hf⟩) (pureV_out h2)
        · cases h2
      · rename_i n e htk
        split at ha
        · rename_i te hte
          split at ha
          · rename_i cs hf
            exact key cs (.inr ⟨n, e, te, htk, hte, hf⟩) (pureV_out ha)
          · cases ha
        · cases ha
      · cases ha
    · cases ha
  case buildSlice t len ps =>
    simp only [act] at ha
    split at ha
    · rename_i e s0 b0 z0 ht
      split at ha
      · rename_i te hte
        obtain ⟨h1, h2⟩ := cond_some ha
        split at h2
        · rename_i cs hf
          split at h2
          · rename_i b hm
            simp only [Option.some.injEq, Prod.mk.injEq, true_and] at h2
            subst h2
            exact buildSlice_ok hty hh (hn1 rfl) he ht rfl hte h1 hf hm
          · cases h2
        · cases h2
      · cases ha
    · cases ha
  case load t a =>
    simp only [act] at ha
    cases ht : ty t with
    | none => rw [ht] at ha; simp at ha
    | some ti =>
      rw [ht] at ha
      obtain ⟨y, tc, v, h1, h2, h3⟩ := load_ok (P := P) (y := .poison) hty hh (he a) ht ha
      subst h1
      exact same_ok hh h2 h3
  case store t a x =>
    simp only [act] at ha
    split at ha
    · rename_i ti id off ext ht hp
      split at ha
      · rename_i vs hvs
        obtain ⟨h1, h2⟩ := cond_some ha
        obtain ⟨h3, h4⟩ := two_true h1
        split at h2
        · rename_i b hb
          simp only [Option.some.injEq, Prod.mk.injEq, true_and] at h2
          subst h2
          have hx := he a
          rw [hp] at hx
          exact store_ok hty hh hx (he x) ht hvs (ble_le h3) (beq_eq h4) hb
        · cases h2
      · cases ha
    · cases ha
  case nilCheck x =>
    simp only [act] at ha
    have hx := he x
    split at ha
    · rename_i id off ext hp
      have := pureV_out ha; subst this
      rw [hp] at hx
      have hx' := hx
      simp only [Rel] at hx
      obtain ⟨b, n, C, _, _, hv⟩ := hx
      exact OpOK.pure hh (v := ae x) (by simp [hv]) hx'
    · rename_i k l off ext hp
      have := pureV_out ha; subst this
      rw [hp] at hx
      have hx' := hx
      simp only [Rel] at hx
      obtain ⟨b, o, hv, _⟩ := hx
      exact OpOK.pure hh (v := ae x) (by simp [hv]) hx'
    · rename_i l off ext hp
      have := pureV_out ha; subst this
      rw [hp] at hx
      have hx' := hx
      simp only [Rel] at hx
      obtain ⟨b, o, hv, _⟩ := hx
      exact OpOK.pure hh (v := ae x) (by simp [hv]) hx'
    · cases ha
  case binOp op t x y t2 =>
    simp only [act] at ha
    obtain ⟨v, h1, h2⟩ := binV_ok (P := P) hty x y ha (he x) (he y)
    subst h1
    exact same_ok (tc := []) hh h2 (Rel.of_c _)
  case unOp op t x =>
    simp only [act] at ha
    obtain ⟨v, h1, h2⟩ := unV_ok (P := P) ha (he x)
    subst h1
    exact same_ok (tc := []) hh h2 (Rel.of_c _)
  case convert s d x =>
    simp only [act] at ha
    exact conv_ok hty hh (he x) ha hn1
  case makeFunc fn first cap =>
    cases fn with
    | func f =>
      simp only [act] at ha
      have := pureV_out ha; subst this
      refine OpOK.pure hh (v := .func (.func f) (first.map ae) (cap.map ae)) (by simp [Instr.makeFunc]) ?_
      simp only [Rel]
      exact ⟨_, _, rfl, by simpa using RelL.map_ev he first.toList, by simpa using RelL.map_ev he cap.toList⟩
    | _ => cases ha
  case makeSlice t l c =>
    simp only [act] at ha
    split at ha
    · rename_i e s0 b0 z0 n m ht hl hc
      split at ha
      · rename_i te hte
        split at ha
        · rename_i k hk
          obtain ⟨h1, h2⟩ := cond_some ha
          simp only [Option.some.injEq, Prod.mk.injEq] at h2
          obtain ⟨h3, h4⟩ := h2
          subst h4
          have e1 := he l
          have e2 := he c
          rw [hl] at e1; rw [hc] at e2
          have := e1.int; have := e2.int
          simp only [*]
          exact makeSlice_ok hty hh (hn1 rfl) ht rfl hte hk h1 h3
        · cases ha
      · cases ha
    · cases ha
  case slice t x lo hi mx =>
    simp only [act] at ha
    obtain ⟨y, tc, v, h1, h2, h3⟩ := sliceV_ok (P := P) hty hh (he x) (OptRel.of he) (OptRel.of he) (OptRel.of he) ha
    subst h1
    exact same_ok hh h2 h3
  case fieldAddr t x f =>
    simp only [act] at ha
    split at ha
    · rename_i fs s0 b0 z0 ht
      obtain ⟨y, v, h1, h2, h3⟩ := fieldAddr_ok (P := P) hty ht rfl (he x) ha
      subst h1
      exact same_ok (tc := []) hh h2 h3
    · cases ha
  case field t x f =>
    simp only [act] at ha
    split at ha
    · rename_i fs s0 b0 z0 cs ht hp
      split at ha
      · rename_i t' fo hf
        split at ha
        · rename_i te hte
          split at ha
          · rename_i r hr
            obtain ⟨h1, h2⟩ := cond_some ha
            have := pureV_out h2; subst this
            have hx := he x
            rw [hp] at hx
            obtain ⟨v, h3, h4⟩ := field_ok (P := P) hty ht rfl hx hf hte (blt_lt h1) hr
            exact same_ok (tc := []) hh h3 h4
          · cases ha
        · cases ha
      · cases ha
    · cases ha
  case indexAddr t x i =>
    simp only [act] at ha
    obtain ⟨y, tc, v, h1, h2, h3⟩ := indexAt_ok (P := P) hty hh (he x) (he i) ha
    subst h1
    exact same_ok hh h2 h3
  case index t x i =>
    simp only [act] at ha
    obtain ⟨y, v, h1, h2, h3⟩ := indexOf_ok (P := P) hty (he x) (he i) ha
    subst h1
    exact same_ok (tc := []) hh h2 h3
  case extract t i =>
    simp only [act] at ha
    split at ha
    · rename_i vs hp
      split at ha
      · rename_i v hv
        have := pureV_out ha; subst this
        have hx := he t
        rw [hp] at hx
        obtain ⟨u, h1, h2⟩ := extract_ok (P := P) hx hv
        exact same_ok (tc := []) hh h1 h2
      · cases ha
    · cases ha
  case call c =>
    obtain ⟨callee, args, ts⟩ := c
    cases callee with
    | value f => simp [act] at ha
    | invoke r m => simp [act] at ha
    | builtin b =>
      simp only [act] at ha
      have hr := builtin_ok (P := P) hty hh (RelL.map_ev he args.toList) ha hn1 o.type (args.map fun | .const _ => true | _ => false)
      have e1 : (args.map ae) = (args.toList.map ae).toArray := by apply Array.ext'; simp
      simp only [resolve, Sem.run_bind, Sem.run_pure, Result.andThen_ok, invoke, e1]
      exact hr
  case makeMap t r =>
    cases r with
    | some r => cases ha
    | none => exact makeMapV_ok hh ha hn1
  case range t x => exact rangeV_ok hty hh (he x) ha hn1
  case entry x => exact entryV_ok hh (he x) ha
  case lookup t m i ok => exact lookupV_ok hty hh (he m) (he i) ha
  case mapUpdate t m i x => exact mapUpdateV_ok hty hh (he m) (he i) (he x) ha
  case insert t m i x => exact mapUpdateV_ok hty hh (he m) (he i) (he x) ha
  case mapEntry t m i => exact mapEntryV_ok hty hh (he m) (he i) ha
  case entryStore t m s x => exact entryStoreV_ok hh (he m) (he s) (he x) ha
  all_goals cases ha

end
end Go.Proofs.Ytlofhdoefjmabaa.Ev
