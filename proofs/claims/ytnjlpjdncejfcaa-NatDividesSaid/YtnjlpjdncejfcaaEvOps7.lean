/-
  The evaluator's operations, sixth part: loads, stores, fields, indexes. (A text of ours; no condition.)
-/
import Derived.Test.YtnjlpjdncejfcaaEvOps6
namespace Go.Proofs.Ytnjlpjdncejfcaa.Ev
set_option linter.unusedVariables false
set_option linter.unusedSimpArgs false

section
variable {P : Program} {F : Nat → Prop} {ρ : Rho} {h : Nat → Blk} {w : World} {nid : Nat} {ty : Nat → Option TI} {ev : Operand → V} {ae : Operand → Value} {out : Out}

/-- load, from whatever pointer. -/
theorem load_ok (hty : TyOK P ty) (hh : HeapRel F ρ h w) {t : Nat} {a : V} {va : Value} (ha : Rel ρ (av F (liveM ρ h)) w a va)
    {ti : TI} (ht : ty t = some ti) {y : V} {out : Out}
    (hl : loadV ti a h = some (true, out)) :
    ∃ y tc v, out = { val := y, touch := tc } ∧ (Instr.loadAt t va).run P w = .ok v w ∧ Rel ρ (av F (liveM ρ h)) w y v := by
  have h0 := hty _ _ ht
  cases a with
  | ptr id off ext =>
    simp only [loadV] at hl
    obtain ⟨h1, h2⟩ := cond_some hl
    rw [Bool.and_eq_true] at h1
    have hle := ble_le h1.1
    have hpos := blt_lt h1.2
    split at h2
    · rename_i y hy
      simp only [Option.some.injEq, Prod.mk.injEq, true_and] at h2
      simp only [Rel] at ha
      obtain ⟨b, n, C, hp, hn, rfl⟩ := ha
      have hlive : (h id).live := by
        cases hx : h id with
        | dead => rw [hx] at hy; simp [loadBlk] at hy
        | _ => trivial
      obtain ⟨v, r1, r2⟩ := loadBlk_ok (b := b) (o := 0) h0 hpos (hh.cellsAt hlive hp) (by omega) hy h0.one
      rw [Nat.zero_add] at r1
      exact ⟨y, _, v, h2.symm, by simp only [Instr.loadAt, Instr.sureAddr, Sem.run_bind, Sem.run_pure, Result.andThen_ok]; exact r1, r2⟩
    · cases h2
  | ilp k l off ext =>
    simp only [loadV] at hl
    obtain ⟨h1, h2⟩ := cond_some hl
    rw [Bool.and_eq_true] at h1
    have hle := ble_le h1.1
    have hpos := blt_lt h1.2
    split at h2
    · rename_i y hy
      simp only [Rel] at ha
      obtain ⟨b, o, rfl, hn, hb, hM, hc⟩ := ha
      obtain ⟨v, r1, r2⟩ := loadBlk_ok (ρ := ρ) (M := av F (liveM ρ h)) (b := b) (o := o) (n := l.length) (x := .ints k l) h0 hpos ⟨Nat.le_refl _, hc⟩ (by omega) hy h0.one
      exact ⟨y, [], v, pureV_out h2, by simp only [Instr.loadAt, Instr.sureAddr, Sem.run_bind, Sem.run_pure, Result.andThen_ok]; exact r1, r2⟩
    · cases h2
  | ivp cols i off ext =>
    simp only [loadV] at hl
    obtain ⟨h1, h2⟩ := cond_some hl
    rw [Bool.and_eq_true] at h1
    have hle := ble_le h1.1
    have hpos := blt_lt h1.2
    split at h2
    · rename_i y hy
      simp only [Rel] at ha
      obtain ⟨b, o, rfl, hn, hb, hM, hc⟩ := ha
      have hlen : ((colsAt cols i).map V.c).length = cols.length := by rw [List.length_map, colsAt_length]
      obtain ⟨v, r1, r2⟩ := loadBlk_ok (ρ := ρ) (M := av F (liveM ρ h)) (b := b) (o := o) (n := cols.length) (x := .vals ((colsAt cols i).map .c)) h0 hpos ⟨by rw [hlen]; exact Nat.le_refl _, colsAt cols i, RelL.consts _, hc⟩ (by omega) hy h0.one
      exact ⟨y, [], v, pureV_out h2, by simp only [Instr.loadAt, Instr.sureAddr, Sem.run_bind, Sem.run_pure, Result.andThen_ok]; exact r1, r2⟩
    · cases h2
  | _ => simp [loadV] at hl

theorem setInts_ok {k : IntKind} {M : Nat → Prop} : ∀ (vs : List V) (us : List Value) (l l' : List Int) (off : Nat), setInts k l off vs = some l' → RelL ρ M w vs us →
    l'.length = l.length ∧ (∀ u ∈ us, u.oneCell' = true) ∧ ∀ j, j < l.length → Value.int k (l'.getD j 0) = if off ≤ j ∧ j < off + us.length then us.getD (j - off) undef else .int k (l.getD j 0)
  | [], [], l, l', off, h, _ => by
    simp [setInts] at h; subst h
    exact ⟨rfl, by simp, fun j _ => by rw [if_neg (by simp only [List.length_nil]; omega)]⟩
  | [], _ :: _, _, _, _, _, h => by simp [RelL] at h
  | _ :: _, [], _, _, _, _, h => by simp [RelL] at h
  | x :: vs, u :: us, l, l', off, h, hr => by
    simp only [RelL] at hr
    cases x with
    | c y =>
      cases y with
      | int k' n =>
        simp only [setInts] at h
        obtain ⟨hk, h0⟩ := cond_some h
        have hkk := keq_eq hk
        subst hkk
        have hu := hr.1.int
        subst hu
        obtain ⟨h1, h2, h3⟩ := setInts_ok vs us _ _ _ h0 hr.2
        simp only [List.length_set] at h1 h3
        refine ⟨h1, ?_, ?_⟩
        · intro v hv
          rcases List.mem_cons.mp hv with rfl | hv
          · rfl
          · exact h2 v hv
        · intro j hj
          rw [h3 j hj]
          simp only [List.length_cons]
          by_cases e : j = off
          · subst e
            rw [if_neg (by omega), if_pos (by omega)]
            simp [List.getD_eq_getElem?_getD, hj]
          · by_cases e2 : off + 1 ≤ j ∧ j < off + 1 + us.length
            · rw [if_pos e2, if_pos (by omega)]
              have : j - off = (j - (off + 1)) + 1 := by omega
              rw [this]; simp [List.getD_eq_getElem?_getD]
            · rw [if_neg e2, if_neg (by omega)]
              simp [List.getD_eq_getElem?_getD, List.getElem?_set_ne (Ne.symm e)]
      | _ => simp [setInts] at h
    | _ => simp [setInts] at h

theorem Rel.oneCell {M : Nat → Prop} {x : V} {v : Value} (hr : Rel ρ M w x v) (hc : cellOk x = true) : v.oneCell' = true := by
  cases x <;> simp only [cellOk, Bool.false_eq_true] at hc
  case c y => have := hr.c; subst this; cases v <;> simp_all [cellOk, Value.oneCell']
  case ptr => simp only [Rel] at hr; obtain ⟨_, _, _, _, _, rfl⟩ := hr; rfl
  case sw => simp only [Rel] at hr; obtain ⟨_, ⟨_, _, _, _, _, _, _, _, rfl⟩ | ⟨_, rfl⟩⟩ := hr <;> rfl
  case sl => simp only [Rel] at hr; obtain ⟨_, ⟨_, _, _, _, _, _, _, _, rfl⟩ | ⟨_, _, rfl⟩⟩ := hr <;> rfl
  case il => simp only [Rel] at hr; obtain ⟨_, _, ⟨_, _, rfl⟩ | ⟨_, _, _, rfl, _⟩⟩ := hr <;> rfl
  case iv => simp only [Rel] at hr; obtain ⟨_, ⟨_, _, rfl⟩ | ⟨_, _, _, rfl, _⟩⟩ := hr <;> rfl
  case ilp => simp only [Rel] at hr; obtain ⟨_, _, rfl, _⟩ := hr; rfl
  case ivp => simp only [Rel] at hr; obtain ⟨_, _, rfl, _⟩ := hr; rfl
  case fn => simp only [Rel] at hr; obtain ⟨_, _, rfl, _⟩ := hr; rfl

theorem RelL.oneCell {M : Nat → Prop} : ∀ {xs : List V} {vs : List Value}, RelL ρ M w xs vs → xs.all cellOk = true → ∀ v ∈ vs, v.oneCell' = true
  | [], [], _, _, v, hv => by simp at hv
  | x :: xs, u :: us, hr, hc, v, hv => by
    simp only [RelL] at hr
    simp only [List.all_cons, Bool.and_eq_true] at hc
    rcases List.mem_cons.mp hv with rfl | hv
    · exact hr.1.oneCell hc.1
    · exact RelL.oneCell hr.2 hc.2 v hv
  | [], _ :: _, h, _, _, _ => by simp [RelL] at h
  | _ :: _, [], h, _, _, _ => by simp [RelL] at h

/-- A block after a store: what its row holds. -/
theorem storeBlk_ok {M : Nat → Prop} {x x' : Blk} {off n : Nat} {vs : List V} {us : List Value} {c c' : Array Value} (hs : storeBlk off vs x = some x') (hx : Holds ρ M w n c x) (hr : RelL ρ M w vs us) (hle : off + us.length ≤ n)
    (hc' : c'.size = c.size) (hcc : ∀ j, c'[j]? = if off ≤ j ∧ j < off + us.length then us[j - off]? else c[j]?) : (∀ v ∈ us, v.oneCell' = true) ∧ Holds ρ M w n c' x' := by
  cases x with
  | dead => exact hx.elim
  | ints k l =>
    simp only [storeBlk, Option.map_eq_some_iff] at hs
    obtain ⟨l', h1, rfl⟩ := hs
    obtain ⟨h2, h3, h4⟩ := setInts_ok vs us l l' off h1 hr
    obtain ⟨a1, a2, a3⟩ := hx
    refine ⟨h3, by omega, by omega, fun i hi => ?_⟩
    rw [hcc i, h4 i (by omega)]
    split
    · rename_i hb
      rw [List.getElem?_eq_getElem (by omega)]
      simp [List.getD_eq_getElem?_getD, List.getElem?_eq_getElem (show i - off < us.length by omega)]
    · exact a3 i (by omega)
  | vals cs =>
    simp only [storeBlk] at hs
    obtain ⟨hok, hs⟩ := cond_some hs
    simp only [Option.map_eq_some_iff] at hs
    obtain ⟨cs', h1, rfl⟩ := hs
    obtain ⟨h2, h3⟩ := setVals_eq h1
    obtain ⟨a1, a2, a3⟩ := hx
    have hlen := hr.length
    refine ⟨RelL.oneCell hr hok, ?_, by omega, ?_⟩
    · rw [h2]; simp; omega
    · have key : c'.toList.take n = (c.toList.take n).take off ++ us ++ (c.toList.take n).drop (off + us.length) := by
        apply List.ext_getElem?
        intro j
        by_cases hj : j < n
        · rw [List.getElem?_take_of_lt hj]
          have hcj := hcc j
          simp only [← Array.getElem?_toList] at hcj
          rw [hcj]
          by_cases h5 : j < off
          · rw [if_neg (by omega), List.append_assoc, List.getElem?_append_left (by simp; omega), List.getElem?_take_of_lt h5, List.getElem?_take_of_lt hj]
          · rw [List.append_assoc, List.getElem?_append_right (by simp; omega)]
            have e : (List.take off (List.take n c.toList)).length = off := by simp; omega
            rw [e]
            by_cases h6 : j < off + us.length
            · rw [if_pos ⟨by omega, h6⟩, List.getElem?_append_left (by omega)]
            · rw [if_neg (by omega), List.getElem?_append_right (by omega), List.getElem?_drop]
              have e2 : off + us.length + (j - off - us.length) = j := by omega
              rw [e2, List.getElem?_take_of_lt hj]
        · rw [List.getElem?_eq_none (by simp; omega), List.getElem?_eq_none (by simp; omega)]
      rw [key, h2]
      exact RelL.splice off a3 hr

theorem store_ok (hty : TyOK P ty) (hh : HeapRel F ρ h w) {t id off ext : Nat} {va vx : Value} {x : V} {vs : List V} {b : Blk} {ti : TI} (ha : Rel ρ (av F (liveM ρ h)) w (.ptr id off ext) va) (hx : Rel ρ (av F (liveM ρ h)) w x vx)
    (ht : ty t = some ti) (hc : cellsO x = some vs) (hle : ti.size ≤ ext) (hl : vs.length = ti.size) (hs : storeBlk off vs (h id) = some b) :
    OpOK F ρ h w nid { val := undefV, wr := [(id, b)], touch := [id] } ((do Instr.storeAt t va vx; pure .skip : Sem Next).run P w) := by
  have h0 := hty _ _ ht
  simp only [Rel] at ha
  obtain ⟨bb, n, C, hp, hn, rfl⟩ := ha
  have hlive : (h id).live := by
    cases hx : h id with
    | dead => rw [hx] at hs; simp [storeBlk] at hs
    | _ => trivial
  obtain ⟨c, ho, hsz, hold⟩ := hh.own hlive hp
  have hr := Rel.cells hx hc
  have hlen := hr.length
  have hnC : n ≤ c.size := by
    cases hx : h id with
    | dead => rw [hx] at hlive; exact hlive.elim
    | ints k l => rw [hx] at hold; exact hold.2.1
    | vals cs => rw [hx] at hold; exact hold.2.1
  -- the cells are one cell each
  have hone : ∀ v ∈ vx.cells.toList, v.oneCell' = true := by
    have := storeBlk_ok (c := c) (c' := (c.toList.take off ++ vx.cells.toList ++ c.toList.drop (off + vx.cells.toList.length)).toArray) hs hold hr (by simp at hlen ⊢; omega) (by simp at hlen ⊢; omega) (fun j => by
      simp only [List.getElem?_toArray]
      by_cases h5 : j < off
      · rw [if_neg (by omega), List.append_assoc, List.getElem?_append_left (by simp; omega), List.getElem?_take_of_lt h5]; simp
      · rw [List.append_assoc, List.getElem?_append_right (by simp; omega)]
        have e : (List.take off c.toList).length = off := by simp; simp at hlen; omega
        rw [e]
        by_cases h6 : j < off + vx.cells.toList.length
        · rw [if_pos ⟨by omega, h6⟩, List.getElem?_append_left (by omega)]
        · rw [if_neg (by omega), List.getElem?_append_right (by omega), List.getElem?_drop]
          have e2 : off + vx.cells.toList.length + (j - off - vx.cells.toList.length) = j := by omega
          rw [e2]; simp)
    exact this.1
  obtain ⟨w', c', r1, r2, r3, r4, r5, r6⟩ := run_storeCells (P := P) (b := bb) vx.cells.toList w off 0 C c ho (by simp at hlen ⊢; omega) hone
  obtain ⟨_, hold'⟩ := storeBlk_ok (c' := c') hs hold hr (by simp at hlen ⊢; omega) (by omega) (fun j => by rw [r6 j]; simp only [Nat.add_zero])
  subst hsz
  rw [← r5] at r4 hp
  obtain ⟨q1, q2⟩ := HeapRel.write hh hlive hp r2 r3 r4 hold'
  refine ⟨undef, w', ρ, .inr ⟨?_, rfl⟩, Sub.refl _, fun _ _ => rfl, q1, Rel.of_c _, q2⟩
  have hsize : ¬ (vx.cells.size ≠ ti.size) := by simp at hlen ⊢; omega
  simp only [Instr.storeAt, Instr.sureAddr, storeVar, Sem.run_bind, Sem.run_pure, Result.andThen_ok, h0.sizeOf, if_neg hsize, Sem.run_ite, r1]

end
end Go.Proofs.Ytnjlpjdncejfcaa.Ev
