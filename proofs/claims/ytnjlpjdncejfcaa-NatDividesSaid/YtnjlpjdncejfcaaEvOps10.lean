/-
  The evaluator's operations, ninth part: conversions, rows made, grown, copied. (A text of ours; no condition.)
-/
import Derived.Test.YtnjlpjdncejfcaaEvOps9
namespace Go.Proofs.Ytnjlpjdncejfcaa.Ev
set_option linter.unusedVariables false
set_option linter.unusedSimpArgs false

section
variable {P : Program} {F : Nat → Prop} {ρ : Rho} {h : Nat → Blk} {w : World} {nid : Nat} {ty : Nat → Option TI} {ev : Operand → V} {ae : Operand → Value} {out : Out} {M : Nat → Prop}

/-- A slice of whole numbers that is read: its cells. -/
theorem rowOf_ok (hh : HeapRel F ρ h w) {x : V} {vx : Value} {k : IntKind} {s : Nat} {l : List Int} {tc : List Nat} (hx : Rel ρ (av F (liveM ρ h)) w x vx) (hr : rowOf h x = some (k, s, l, tc)) :
    0 < s ∧ ∃ a len cap, vx = .slice a len cap ∧ l.length = len * s ∧ len ≤ cap ∧ (l = [] ∨ ∃ b o, a = some ⟨b, o, none⟩ ∧ ∀ j, j < l.length → w.cell? ⟨b, o + j, none⟩ = some (.int k (l.getD j 0))) := by
  unfold rowOf at hr
  split at hr
  · rename_i id s'
    split at hr
    · rename_i k' l' hid
      simp only [Option.some.injEq, Prod.mk.injEq] at hr
      obtain ⟨rfl, rfl, rfl, _⟩ := hr
      obtain ⟨h0, ⟨b, n, C, cap, c, h1, h2, h3, h4, h5, ho, hsz, hold⟩ | ⟨h1, h2, hk⟩⟩ := sw_cells hh hx (by rw [hid]; trivial)
      · rw [hid] at hold
        obtain ⟨e1, e2, e3⟩ := hold
        have hn : n / s' * s' = n := Nat.div_mul_cancel (Nat.dvd_of_mod_eq_zero h2)
        exact ⟨h0, _, _, _, h5, by omega, h3, .inr ⟨b, 0, rfl, fun j hj => by rw [Nat.zero_add, ho.cell]; exact e3 j hj⟩⟩
      · rw [hid] at hk
        rcases hk with ⟨k2, hk⟩ | hk <;> cases hk
        exact ⟨h0, _, _, _, h2, by simp, Nat.le_refl _, .inl rfl⟩
    · cases hr
  · rename_i id s' off len
    split at hr
    · rename_i k' l' hid
      simp only [Option.some.injEq, Prod.mk.injEq] at hr
      obtain ⟨rfl, rfl, rfl, _⟩ := hr
      simp only [Rel] at hx
      obtain ⟨h0, ⟨b, n, C, cap, h1, h2, h3, h4, h5⟩ | ⟨h1, a, h2⟩⟩ := hx
      · obtain ⟨c, ho, hsz, hold⟩ := hh.own (by rw [hid]; trivial) h1
        rw [hid] at hold
        obtain ⟨e1, e2, e3⟩ := hold
        have hl : ((l'.drop off).take (mulw s' len)).length = len * s' := by simp only [mulw_eq, List.length_take, List.length_drop]; omega
        refine ⟨h0, _, _, _, h5, hl, h3, .inr ⟨b, off, rfl, fun j hj => ?_⟩⟩
        rw [hl] at hj
        rw [ho.cell, e3 (off + j) (by omega)]
        simp only [mulw_eq, List.getD_eq_getElem?_getD, List.getElem?_take, if_pos hj, List.getElem?_drop]
      · subst h1
        refine ⟨h0, a, 0, 0, h2, by simp [mulw_eq], Nat.le_refl _, .inl (by simp [mulw_eq])⟩
    · cases hr
  · rename_i k' s' l'
    simp only [Option.some.injEq, Prod.mk.injEq] at hr
    obtain ⟨rfl, rfl, rfl, _⟩ := hr
    simp only [Rel] at hx
    obtain ⟨h0, h1, ⟨h2, a, h3⟩ | ⟨b, o, cap, h2, h3, _, _, h4⟩⟩ := hx
    · exact ⟨h0, a, 0, 0, h3, by rw [h2]; simp, Nat.le_refl _, .inl h2⟩
    · exact ⟨h0, _, _, _, h2, (Nat.div_mul_cancel (Nat.dvd_of_mod_eq_zero h1)).symm, h3, .inr ⟨b, o, rfl, h4⟩⟩
  · cases hr

theorem rowV_ok (hh : HeapRel F ρ h w) {x : V} {vx : Value} {s : Nat} {l : List V} {tc : List Nat} (hx : Rel ρ (av F (liveM ρ h)) w x vx) (hr : rowV h x = some (s, l, tc)) :
    0 < s ∧ ∃ a len cap cs, vx = .slice a len cap ∧ l.length = len * s ∧ len ≤ cap ∧ RelL ρ (av F (liveM ρ h)) w l cs ∧ (l = [] ∨ ∃ b o, a = some ⟨b, o, none⟩ ∧ ∀ j, j < l.length → w.cell? ⟨b, o + j, none⟩ = cs[j]?) := by
  unfold rowV at hr
  split at hr
  · rename_i id s'
    split at hr
    · rename_i l' hid
      simp only [Option.some.injEq, Prod.mk.injEq] at hr
      obtain ⟨rfl, rfl, _⟩ := hr
      obtain ⟨h0, ⟨b, n, C, cap, c, h1, h2, h3, h4, h5, ho, hsz, hold⟩ | ⟨h1, h2, hk⟩⟩ := sw_cells hh hx (by rw [hid]; trivial)
      · rw [hid] at hold
        obtain ⟨e1, e2, e3⟩ := hold
        have hn : n / s' * s' = n := Nat.div_mul_cancel (Nat.dvd_of_mod_eq_zero h2)
        exact ⟨h0, _, _, _, _, h5, by omega, h3, e3, .inr ⟨b, 0, rfl, fun j hj => by rw [Nat.zero_add, ho.cell]; simp [List.getElem?_take, show j < n by omega]⟩⟩
      · rw [hid] at hk
        rcases hk with ⟨k2, hk⟩ | hk <;> cases hk
        exact ⟨h0, _, _, _, [], h2, by simp, Nat.le_refl _, by simp [RelL], .inl rfl⟩
    · cases hr
  · cases hr

/-- Cells of a slice, read. -/
theorem run_firstCells {a : Option Addr} {len cap s n : Nat} {vs : List Value} (hl : vs.length = n * s) (hc : vs = [] ∨ ∃ b o, a = some ⟨b, o, none⟩ ∧ ∀ j, j < vs.length → w.cell? ⟨b, o + j, none⟩ = vs[j]?) (hn : a = none → vs = []) :
    (Builtin.firstCells s n (.slice a len cap)).run P w = .ok vs.toArray w := by
  cases a with
  | none => rw [hn rfl]; simp [Builtin.firstCells]
  | some a =>
    rcases hc with hc | ⟨b, o, h1, h2⟩
    · subst hc
      simp only [List.length_nil] at hl
      simp [Builtin.firstCells, loadCells, ← hl, loadCellsFrom]
    · simp only [Option.some.injEq] at h1
      subst h1
      have := run_loadCellsFrom (P := P) (w := w) (b := b) (o := o) (n * s) 0 #[] vs hl (fun j hj => by rw [Nat.zero_add]; exact h2 j (by omega))
      simp only [Builtin.firstCells, loadCells, this]
      simp

theorem getD_map (k : IntKind) (l : List Int) {j : Nat} (hj : j < l.length) : (l.map (Value.int k))[j]? = some (.int k (l.getD j 0)) := by
  simp [List.getD_eq_getElem?_getD, hj]

/-- append's (copy's) right-hand side: how many elements, which cells. -/
theorem srcInts_ok (hh : HeapRel F ρ h w) {x : V} {vx : Value} {k : IntKind} {s : Nat} {l : List Int} {tc : List Nat} (hs : 0 < s) (hx : Rel ρ (av F (liveM ρ h)) w x vx) (hr : srcInts h k s x = some (l, tc)) :
    ∃ n, (Builtin.lenOf vx).run P w = .ok n w ∧ l.length = n * s ∧ ∀ n', n' ≤ n → (Builtin.firstCells s n' vx).run P w = .ok ((l.take (n' * s)).map (Value.int k)).toArray w := by
  unfold srcInts at hr
  split at hr
  · simp only [Option.some.injEq, Prod.mk.injEq] at hr
    obtain ⟨rfl, _⟩ := hr
    have := hx.c; subst this
    exact ⟨0, by simp [Builtin.lenOf], by simp, fun n' hn' => by simp [Builtin.firstCells]⟩
  · rename_i b
    obtain ⟨hk, hr⟩ := cond_some hr
    obtain ⟨hk1, hk2⟩ := two_true hk
    have hk1 := keq_eq hk1
    have hk2 := beq_eq hk2
    simp only [Option.some.injEq, Prod.mk.injEq] at hr
    obtain ⟨rfl, _⟩ := hr
    have := hx.c; subst this
    subst hk1; subst hk2
    refine ⟨b.size, by simp [Builtin.lenOf], by simp [intsOfBytes], fun n' hn' => ?_⟩
    simp only [Builtin.firstCells, Sem.run_pure, Nat.mul_one]
    congr 1
    apply Array.ext'
    simp [intsOfBytes, List.map_take]
    rfl
  · split at hr
    · rename_i k' s' l' t' hrow
      obtain ⟨hk, hr⟩ := cond_some hr
      obtain ⟨hk1, hk2⟩ := two_true hk
      have hk1 := keq_eq hk1
      have hk2 := beq_eq hk2
      simp only [Option.some.injEq, Prod.mk.injEq] at hr
      obtain ⟨rfl, _⟩ := hr
      subst hk1; subst hk2
      obtain ⟨_, a, len, cap, rfl, h2, h3, h4⟩ := rowOf_ok hh hx hrow
      refine ⟨len, by simp [Builtin.lenOf], h2, fun n' hn' => ?_⟩
      have hle : n' * s' ≤ len * s' := Nat.mul_le_mul_right _ hn'
      refine run_firstCells (by simp; omega) ?_ ?_
      · rcases h4 with h4 | ⟨b, o, h4, h5⟩
        · subst h4; left; simp
        · right
          refine ⟨b, o, h4, fun j hj => ?_⟩
          simp at hj
          rw [h5 j (by omega), List.map_take, List.getElem?_take_of_lt (by omega), getD_map k l' (by omega)]
      · intro ha
        rcases h4 with h4 | ⟨b, o, h4, h5⟩
        · subst h4; simp
        · rw [ha] at h4; cases h4
    · cases hr

theorem srcVals_ok (hh : HeapRel F ρ h w) {x : V} {vx : Value} {s : Nat} {l : List V} {tc : List Nat} (hs : 0 < s) (hx : Rel ρ (av F (liveM ρ h)) w x vx) (hr : srcVals h s x = some (l, tc)) :
    ∃ n cs, (Builtin.lenOf vx).run P w = .ok n w ∧ l.length = n * s ∧ RelL ρ (av F (liveM ρ h)) w l cs ∧ (∀ v ∈ cs, v.oneCell' = true) ∧ (Builtin.firstCells s n vx).run P w = .ok cs.toArray w := by
  unfold srcVals at hr
  split at hr
  · simp only [Option.some.injEq, Prod.mk.injEq] at hr
    obtain ⟨rfl, _⟩ := hr
    have := hx.c; subst this
    exact ⟨0, [], by simp [Builtin.lenOf], by simp, by simp [RelL], by simp, by simp [Builtin.firstCells]⟩
  · split at hr
    · rename_i s' l' t' hrow
      obtain ⟨hk, hr⟩ := cond_some hr
      obtain ⟨hk1, hk2⟩ := two_true hk
      have hk1 := beq_eq hk1
      simp only [Option.some.injEq, Prod.mk.injEq] at hr
      obtain ⟨rfl, _⟩ := hr
      subst hk1
      obtain ⟨_, a, len, cap, cs, rfl, h2, h3, h4, h5⟩ := rowV_ok hh hx hrow
      have hlen := h4.length
      refine ⟨len, cs, by simp [Builtin.lenOf], h2, h4, RelL.oneCell h4 hk2, run_firstCells (by omega) ?_ ?_⟩
      · rcases h5 with h5 | ⟨b, o, h5, h6⟩
        · left; subst h5; simp at hlen; exact List.length_eq_zero_iff.mp hlen.symm
        · right; exact ⟨b, o, h5, fun j hj => h6 j (by omega)⟩
      · intro ha
        rcases h5 with h5 | ⟨b, o, h5, h6⟩
        · subst h5; simp at hlen; exact List.length_eq_zero_iff.mp hlen.symm
        · rw [ha] at h5; cases h5
    · cases hr

/-- Ints out of related cells. -/
theorem asInts_ok {k : IntKind} : ∀ {cs : List V} {l : List Int} {vs : List Value}, asInts k cs = some l → RelL ρ M w cs vs → vs = l.map (.int k)
  | [], l, [], h, _ => by simp [asInts] at h; subst h; rfl
  | [], _, _ :: _, _, h => by simp [RelL] at h
  | _ :: _, _, [], _, h => by simp [RelL] at h
  | x :: cs, l, v :: vs, h, hr => by
    simp only [RelL] at hr
    cases x with
    | c y =>
      cases y with
      | int k' n =>
        simp only [asInts] at h
        obtain ⟨hk, h1⟩ := cond_some h
        have hkk := keq_eq hk
        subst hkk
        simp only [Option.map_eq_some_iff] at h1
        obtain ⟨r, h2, rfl⟩ := h1
        have := hr.1.int
        subst this
        rw [asInts_ok h2 hr.2]
        rfl
      | _ => simp [asInts] at h
    | _ => simp [asInts] at h

theorem mkRow_ok {ti : TI} {cs : List V} {b : Blk} {c : Array Value} (hm : mkRow ti cs = some b) (hr : RelL ρ M w cs c.toList) : Holds ρ M w cs.length c b := by
  unfold mkRow at hm
  have hlen := hr.length
  split at hm
  · rename_i k hk
    simp only [Option.map_eq_some_iff] at hm
    obtain ⟨l, h1, rfl⟩ := hm
    have h2 := asInts_ok h1 hr
    have h3 : l.length = c.size := by have := congrArg List.length h2; simpa using this.symm
    refine ⟨by simp at hlen; omega, by simp at hlen; omega, fun i hi => ?_⟩
    have : c[i]? = (c.toList)[i]? := by simp
    rw [this, h2]
    simp [List.getD_eq_getElem?_getD, hi]
  · simp only [Option.some.injEq] at hm
    subst hm
    refine ⟨rfl, by simp at hlen; omega, ?_⟩
    rw [List.take_of_length_le (by omega)]
    exact hr

theorem repV_len (l : List V) : ∀ n, (repV n l).length = n * l.length
  | 0 => by simp [repV]
  | n + 1 => by simp [repV, repV_len l n, Nat.succ_mul, Nat.add_comm]

/-- Zero cells, again and again. -/
theorem rep_range {zero : Array Value} (hz : 0 < zero.size) : ∀ n, ((Array.range (n * zero.size)).map (zero[· % zero.size]!)).toList = (List.replicate n zero.toList).flatten
  | 0 => by simp
  | n + 1 => by
    have ih := rep_range hz n
    apply List.ext_getElem?
    intro j
    rw [List.replicate_succ', List.flatten_append]
    simp only [List.flatten_cons, List.flatten_nil, List.append_nil]
    by_cases h1 : j < n * zero.size
    · rw [List.getElem?_append_left (by rw [← ih]; simp; exact h1), ← ih]
      simp [h1, show j < (n + 1) * zero.size by rw [Nat.succ_mul]; omega]
    · rw [List.getElem?_append_right (by rw [← ih]; simp; omega), ← ih]
      simp only [Array.toList_map, List.length_map, Array.length_toList, Array.size_range]
      by_cases h2 : j < (n + 1) * zero.size
      · have h3 : j - n * zero.size < zero.size := by rw [Nat.succ_mul] at h2; omega
        have h4 : j % zero.size = j - n * zero.size := by
          have : j = (j - n * zero.size) + zero.size * n := by rw [Nat.mul_comm zero.size n]; omega
          rw [this, Nat.add_mul_mod_self_left, Nat.mod_eq_of_lt h3]
          have : zero.size * n = n * zero.size := Nat.mul_comm _ _
          omega
        simp only [List.getElem?_map]
        have : (Array.range ((n + 1) * zero.size)).toList[j]? = some j := by simp [h2]
        rw [this]
        simp [h4, h3]
      · have h3 : ¬ j - n * zero.size < zero.size := by rw [Nat.succ_mul] at h2; omega
        rw [List.getElem?_eq_none (by simp; omega), List.getElem?_eq_none (by simp; omega)]

theorem repV_rel {cs : List V} {vs : List Value} (hr : RelL ρ M w cs vs) : ∀ n, RelL ρ M w (repV n cs) (List.replicate n vs).flatten
  | 0 => by simp [repV, RelL]
  | n + 1 => by
    rw [List.replicate_succ, List.flatten_cons]
    exact hr.append (repV_rel hr n)

theorem fillV_len {pl : Nat → Option (Nat × Nat)} : ∀ (ps : List (Nat × V)) (cs r : List V), fillV pl cs ps = some r → r.length = cs.length
  | [], cs, r, h => by simp [fillV] at h; subst h; rfl
  | (i, v) :: ps, cs, r, h => by
    simp only [fillV] at h
    split at h
    · cases h
    · split at h
      · rename_i vs hvs
        obtain ⟨hg, h⟩ := cond_some h
        obtain ⟨hg1, hg2⟩ := two_true hg
        have hpos := blt_lt hg2
        have he := beq_eq hg1
        split at h
        · rename_i cs' hcs
          obtain ⟨h3, h4⟩ := setVals_eq hcs
          have := h4 (by rintro rfl; simp at he; omega)
          rw [fillV_len ps cs' r h, h3]
          simp; omega
        · cases h
      · cases h

theorem buildSlice_ok (hty : TyOK P ty) (hh : HeapRel F ρ h w) (hn : ρ nid = none) (he : ∀ x, Rel ρ (av F (liveM ρ h)) w (ev x) (ae x)) {t e len : Nat} {ti te : TI} {ps : Array (Nat × Operand)} {cs : List V} {b : Blk} (ht : ty t = some ti) (htk : ti.tk = .slice e) (hte : ty e = some te)
    (hg : (Nat.ble (len * te.size) 16777216 && Nat.blt 0 te.size) = true) (hf : fillV (fun i => some (i * te.size, te.size)) (repV len (zeroV te)) (ps.toList.map fun p => (p.1, ev p.2)) = some cs) (hm : mkRow te cs = some b) :
    OpOK F ρ h w nid { val := .sw nid te.size, new := [b] } ((do pure (.value (← Instr.buildSlice t len (ps.map fun (i, x) => (i, ae x)))) : Sem Next).run P w) := by
  have h0 := hty _ _ hte
  have hu := (hty _ _ ht).tk
  rw [htk] at hu
  simp only [tkOK] at hu
  obtain ⟨hg1, hg2⟩ := two_true hg
  have hle := ble_le hg1
  have hs := blt_lt hg2
  obtain ⟨z, z1, z2⟩ := h0.zeroValue (w := w)
  have hzl : z.cells.size = te.size := by have := congrArg List.length z2; simp at this; rw [this, h0.zlen]
  generalize hzc : (if len * te.size = 0 then #[] else z.cells) = zc
  have hz : RelL ρ (av F (liveM ρ h)) w (repV len (zeroV te)) ((Array.range (len * te.size)).map (zc[· % zc.size]!)).toList := by
    by_cases h0 : len * te.size = 0
    · have hl0 : len = 0 := by
        rcases Nat.mul_eq_zero.mp h0 with h | h
        · exact h
        · omega
      subst hl0
      simp [repV, RelL]
    · rw [if_neg h0] at hzc
      subst hzc
      rw [← hzl, rep_range (by omega), z2]
      exact repV_rel (RelL.map_c _) len
  obtain ⟨ys, c1, c2⟩ := fillV_ok (pl' := fun i => some (i * te.size, te.size)) (fun i p hp => hp) _ (ps.toList.map fun p => (p.1, ae p.2)) _ _ _ hf hz (by simp) (evPairs he ps.toList)
  have hps : (ps.map fun (i, x) => (i, ae x)).toList = ps.toList.map fun p => (p.1, ae p.2) := by simp
  have hold := mkRow_ok hm c2
  have hcl : cs.length = len * te.size := by
    rw [fillV_len _ _ _ hf, repV_len]
    simp [zeroV, h0.zlen]
  rw [hcl] at hold
  refine OpOK.made (c := ys) (e := e) (fr := (0, 0)) (n := len * te.size) (w' := { w with heap := w.heap.push (.cells ys e) }) hh hn (fun i _ => by dsimp only; omega) hold rfl (v := .slice (some ⟨w.heap.size, 0, none⟩) len len) ?_ ?_
  · have hbig : ¬ (len * te.size > 2 ^ 24) := by omega
    rw [← hps] at c1
    by_cases hne : len * te.size = 0
    · rw [if_pos hne] at hzc
      subst hzc
      simp only [Instr.buildSlice, Sem.run_bind, run_underlying hu, Result.andThen_ok, h0.sizeOf, if_neg hbig, if_pos hne, z1, Sem.run_pure, Sem.run_ite]
      simp only [c1, newRow, Sem.run_bind, run_newObj, Result.andThen_ok, Sem.run_pure]
    · rw [if_neg hne] at hzc
      subst hzc
      simp only [Instr.buildSlice, Sem.run_bind, run_underlying hu, Result.andThen_ok, h0.sizeOf, if_neg hbig, if_neg hne, z1, Sem.run_pure, Sem.run_ite]
      simp only [c1, newRow, Sem.run_bind, run_newObj, Result.andThen_ok, Sem.run_pure]
  · intro ρ' M' w'' hp
    simp only [Rel]
    have hys := c2.length
    simp at hys
    exact ⟨hs, .inl ⟨_, _, _, len, hp, Nat.mul_mod_left _ _, by rw [div_of_mul hs]; exact Nat.le_refl _, by omega, by rw [div_of_mul hs]⟩⟩

/-- make -/
theorem wrap_id {n : Int} (h0 : 0 ≤ n) (h1 : n ≤ 9223372036854775807) : IntKind.i64.wrap n = n := by
  have e0 : (2 : Int) ^ IntKind.i64.bits = 18446744073709551616 := by decide
  have eb : (2 : Int) ^ (IntKind.i64.bits - 1) = 9223372036854775808 := by decide
  have e : n % 2 ^ IntKind.i64.bits = n := Int.emod_eq_of_lt h0 (by rw [e0]; omega)
  unfold IntKind.wrap
  simp only [e]
  rw [if_neg]
  simp only [Bool.and_eq_true, decide_eq_true_eq, not_and]
  intro _
  rw [eb]
  omega

theorem homo_zero {ti : TI} {k : IntKind} (hh : homo ti = some k) (hz : ti.zero.all (fun | .int _ z => z == 0 | _ => false) = true) : ∀ v ∈ ti.zero, v = .int k 0 := by
  unfold homo at hh
  split at hh
  · rename_i k0 n0 r hr
    obtain ⟨h1, h2⟩ := cond_some hh
    simp only [Option.some.injEq] at h2
    subst h2
    intro v hv
    have hv0 := List.all_eq_true.mp hz v hv
    rw [hr] at hv
    rcases List.mem_cons.mp hv with rfl | hv
    · simp at hv0; rw [hv0]
    · have := List.all_eq_true.mp h1 v hv
      cases v with
      | int k' n' =>
        simp only at this hv0
        have hk := keq_eq this
        simp at hv0
        rw [hk, hv0]
      | _ => simp at hv0
  · cases hh

theorem makeSlice_ok (hty : TyOK P ty) (hh : HeapRel F ρ h w) (hn : ρ nid = none) {t e : Nat} {ti te : TI} {n m : Int} {k : IntKind} (ht : ty t = some ti) (htk : ti.tk = .slice e) (hte : ty e = some te) (hk : homo te = some k) (hz : te.zero.all (fun | .int _ z => z == 0 | _ => false) = true)
    (hg : (decide (n = m) && decide (0 ≤ n) && decide (n ≤ 9223372036854775807) && roomy n.toNat te.bytes) = true) :
    OpOK F ρ h w nid { val := .sw nid te.size, new := [.ints k (List.replicate (mulw te.size n.toNat) 0)] } ((do pure (.value (← Instr.makeSlice t (.int .i64 n) (.int .i64 m))) : Sem Next).run P w) := by
  have h0 := hty _ _ hte
  have hu := (hty _ _ ht).tk
  rw [htk] at hu
  simp only [tkOK] at hu
  obtain ⟨o1, o2, o3, o4⟩ := four_true hg
  simp only [decide_eq_true_eq, roomy] at o1 o2 o3 o4
  subst o1
  obtain ⟨z, z1, z2⟩ := h0.zeroValue (w := w)
  obtain ⟨inf, i1, i2, i3⟩ := h0.typeInfo (w := w)
  have hzl : z.cells.size = te.size := by have := congrArg List.length z2; simp at this; rw [this, h0.zlen]
  have hs : 0 < te.size := by
    rw [← h0.zlen]
    unfold homo at hk
    split at hk
    · rename_i hr; rw [hr]; simp
    · cases hk
  have hw := wrap_id o2 o3
  have hsmall : ¬ (decide (n < 0) || decide ((te.bytes : Int) * n > 2 ^ 48)) = true := by
    have h1 : ¬ n < 0 := by omega
    have h2 : (te.bytes : Int) * n ≤ 70368744177664 := by
      have : ((n.toNat * te.bytes : Nat) : Int) ≤ 70368744177664 := Int.ofNat_le.mpr o4
      rw [Int.natCast_mul, Int.toNat_of_nonneg o2, Int.mul_comm] at this
      exact this
    simp only [Bool.or_eq_true, decide_eq_true_eq, not_or]
    exact ⟨h1, by omega⟩
  have hcells : ∀ j, j < n.toNat * te.size → (((Array.range (n.toNat * te.size)).map (z.cells[· % z.cells.size]!)))[j]? = some (.int k 0) := by
    intro j hj
    have hlt : j % z.cells.size < z.cells.size := Nat.mod_lt _ (by omega)
    have hmem : z.cells[j % z.cells.size] ∈ te.zero := by rw [← z2]; exact Array.mem_toList_iff.mpr (Array.getElem_mem hlt)
    have := homo_zero hk hz _ hmem
    have e1 : (Array.range (n.toNat * te.size))[j]? = some j := by simp [hj]
    rw [Array.getElem?_map, e1]
    simp only [Option.map_some]
    rw [getElem!_pos z.cells (j % z.cells.size) hlt, this]
  refine OpOK.made (c := (Array.range (n.toNat * te.size)).map (z.cells[· % z.cells.size]!)) (e := e) (fr := (0, 0)) (n := n.toNat * te.size) (w' := { w with heap := w.heap.push (.cells ((Array.range (n.toNat * te.size)).map (z.cells[· % z.cells.size]!)) e) }) hh hn (fun i _ => by dsimp only; omega) ?_ rfl (v := .slice (some ⟨w.heap.size, 0, none⟩) n.toNat n.toNat) ?_ ?_
  · refine ⟨by rw [List.length_replicate, mulw_eq], by rw [Array.size_map, Array.size_range]; exact Nat.le_refl _, fun i hi => ?_⟩
    simp only [mulw_eq, List.length_replicate] at hi
    rw [hcells i hi]
    simp [mulw_eq, List.getD_eq_getElem?_getD, List.getElem?_replicate, hi]
  · have hor : ¬ ((decide (n < 0) || decide ((te.bytes : Int) * n > 2 ^ 48)) || decide (n < 0) || decide (n > n)) = true := by
      simp only [Bool.or_eq_true, decide_eq_true_eq, not_or] at hsmall ⊢
      omega
    simp only [Instr.makeSlice, Sem.run_bind, run_underlying hu, Result.andThen_ok, asInt, asIntOf, Sem.run_pure, i1, i2, hw, if_neg hor, run_askRoom, h0.sizeOf, newRow, run_newObj, Sem.run_ite]
    by_cases hz0 : n.toNat * te.size = 0
    · have he : ∀ f : Nat → Value, (Array.range (n.toNat * te.size)).map f = #[] := by intro f; rw [hz0]; simp
      rw [if_pos hz0, he, he]
      rfl
    · rw [if_neg hz0, z1]
      rfl
  · intro ρ' M' w'' hp
    simp only [Rel]
    refine ⟨hs, .inl ⟨_, _, _, n.toNat, hp, Nat.mul_mod_left _ _, by rw [div_of_mul hs]; exact Nat.le_refl _, by simp, by rw [div_of_mul hs]⟩⟩

end
end Go.Proofs.Ytnjlpjdncejfcaa.Ev
