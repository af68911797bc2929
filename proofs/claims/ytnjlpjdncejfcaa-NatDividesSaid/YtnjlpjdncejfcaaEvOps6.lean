/-
  The evaluator's operations, fifth part: each operation against the program's own. (A text of ours; no condition.)
-/
import Derived.Test.YtnjlpjdncejfcaaEvOps5
namespace Go.Proofs.Ytnjlpjdncejfcaa.Ev
set_option linter.unusedVariables false
set_option linter.unusedSimpArgs false

section
variable {P : Program} {F : Nat → Prop} {ρ : Rho} {h : Nat → Blk} {w : World} {nid : Nat} {ty : Nat → Option TI} {ev : Operand → V} {ae : Operand → Value} {out : Out}

theorem Rel.bool {M : Nat → Prop} {b : Bool} {v : Value} (hv : Rel ρ M w (.c (.bool b)) v) : v = .bool b := hv.c

theorem cond_some {α : Type} {b : Bool} {x : Option α} {y : α} (h : (bif b then x else none) = some y) : b = true ∧ x = some y := by
  cases b <;> simp_all

/-- pick -/
theorem pick_ok {M : Nat → Prop} {b : Bool} {x y : V} {u v : Value} (hx : Rel ρ M w x u) (hy : Rel ρ M w y v) : Rel ρ M w (pickV b x y) (if b then u else v) := by
  unfold pickV
  split
  · have := hx.bool; have := hy.bool; subst_vars
    cases b <;> exact Rel.of_c _
  · cases b <;> simpa

/-- A block made by one operation. -/
theorem OpOK.made (hh : HeapRel F ρ h w) (hn : ρ nid = none) {c : Array Value} {e : TypeId} {fr : Nat × Nat} {n : Nat} {x : Blk} (hfr : ∀ i, i < c.size → ¬ (fr.1 ≤ i ∧ i < fr.2)) (hx : Holds ρ (av F (liveM ρ h)) w n c x) {w' : World} (hw : w'.heap = w.heap.push (.cells c e fr))
    {r : Result Next} {v : Value} {y : V} {tc : List Nat} (hr : r = .ok (.value v) w') (hv : ∀ ρ' M' w'', ρ' nid = some ⟨some w.heap.size, n, c.size⟩ → Rel ρ' M' w'' y v) (hkp : Keeps w w' := by exact ⟨rfl, rfl, rfl⟩) : OpOK F ρ h w nid { val := y, new := [x], touch := tc } r := by
  obtain ⟨h1, h2⟩ := HeapRel.alloc hh hn hfr hx hkp hw
  refine ⟨v, w', _, .inl hr, setR_sub hn, fun id hid => ?_, h1, hv _ _ _ (by simp [setR]), h2⟩
  simp only [List.length_cons, List.length_nil] at hid
  unfold setR
  rw [if_neg (by omega)]

theorem alloc_ok {t : Nat} {ti : TI} (ht : TyOK1 P t ti) (hh : HeapRel F ρ h w) (hn : ρ nid = none) :
    OpOK F ρ h w nid { val := .ptr nid 0 ti.size, new := [.vals (zeroV ti)] } ((do pure (.value (← Instr.alloc t true (.tuple #[]))) : Sem Next).run P w) := by
  obtain ⟨z, h1, h2⟩ := ht.zeroValue (w := w)
  have hl : z.cells.size = ti.size := by have := congrArg List.length h2; simp at this; rw [this, ht.zlen]
  refine OpOK.made (c := z.cells) (e := t) (fr := (0, 0)) (n := ti.size) (w' := { w with heap := w.heap.push (.cells z.cells t) }) hh hn (fun i _ => by dsimp only; omega) ?_ rfl (v := .pointer (some ⟨w.heap.size, 0, none⟩)) ?_ ?_
  · refine ⟨by simp [zeroV, ht.zlen], by omega, ?_⟩
    rw [List.take_of_length_le (by simp [hl]), h2]
    exact RelL.map_c _
  · simp [Instr.alloc, h1, newVar, newRow]
  · intro ρ' M' w'' hp
    simp only [Rel]
    exact ⟨_, _, _, hp, by simp, rfl⟩

theorem box_ok {t : Nat} {x : V} {vs : List V} {v : Value} (hh : HeapRel F ρ h w) (hn : ρ nid = none) (hx : Rel ρ (av F (liveM ρ h)) w x v) (hc : cellsO x = some vs) {n : Nat} (hvs : vs.length = n) :
    OpOK F ρ h w nid { val := .ptr nid 0 n, new := [.vals vs] } ((do pure (.value (← Instr.box t v)) : Sem Next).run P w) := by
  have hr := Rel.cells hx hc
  have hl := hr.length
  simp at hl
  refine OpOK.made (c := v.cells) (e := t) (fr := (0, 0)) (n := n) (w' := { w with heap := w.heap.push (.cells v.cells t) }) hh hn (fun i _ => by dsimp only; omega) ?_ rfl (v := .pointer (some ⟨w.heap.size, 0, none⟩)) ?_ ?_
  · refine ⟨hvs, by omega, ?_⟩
    rw [List.take_of_length_le (by simp; omega)]
    exact hr
  · simp [Instr.box, newVar, newRow]
  · intro ρ' M' w'' hp
    simp only [Rel]
    exact ⟨_, _, _, hp, by simp, rfl⟩

theorem fieldOf_eq {fs : List (Nat × Nat)} {i off size : Nat} (hf : fieldOf ty fs i = some (off, size)) : ∃ t ti, fs[i]? = some (t, off) ∧ ty t = some ti ∧ ti.size = size := by
  unfold fieldOf at hf
  split at hf
  · rename_i t o hg
    split at hf
    · rename_i ti ht
      simp only [Option.some.injEq, Prod.mk.injEq] at hf
      exact ⟨t, ti, by rw [hg, hf.1], ht, hf.2⟩
    · cases hf
  · cases hf

theorem run_mapM_places (hty : TyOK P ty) : ∀ (fields : List Field), (∀ f ∈ fields, ∃ ti, ty f.type = some ti) →
    (fields.mapM (fun f => (do pure (f.offset, ← Go.sizeOf f.type) : Sem (Nat × Nat)))).run P w = .ok (fields.map fun f => (f.offset, ((ty f.type).map (·.size)).getD 0)) w
  | [], _ => by simp
  | f :: fs, h => by
    obtain ⟨ti, hti⟩ := h f (by simp)
    simp only [List.mapM_cons, Sem.run_bind, (hty _ _ hti).sizeOf, Result.andThen_ok, Sem.run_pure]
    rw [run_mapM_places hty fs (fun g hg => h g (by simp [hg]))]
    simp [hti]

theorem evPairs {M : Nat → Prop} (he : ∀ x, Rel ρ M w (ev x) (ae x)) (ps : List (Nat × Operand)) : ∀ (j : Nat) p q, (ps.map fun p => (p.1, ev p.2))[j]? = some p → (ps.map fun p => (p.1, ae p.2))[j]? = some q → p.1 = q.1 ∧ Rel ρ M w p.2 q.2 := by
  intro j p q hp hq
  simp only [List.getElem?_map, Option.map_eq_some_iff] at hp hq
  obtain ⟨a, h1, rfl⟩ := hp
  obtain ⟨b, h2, rfl⟩ := hq
  rw [h1] at h2
  simp only [Option.some.injEq] at h2
  subst h2
  exact ⟨rfl, he _⟩

theorem build_ok {M : Nat → Prop} (hty : TyOK P ty) {t : Nat} {ti : TI} {ps : Array (Nat × Operand)} (ht : ty t = some ti) (he : ∀ x, Rel ρ M w (ev x) (ae x)) {cs : List V}
    (hb : (∃ fs, ti.tk = .struct fs ∧ fs.all (fun p => (ty p.1).isSome) = true ∧ fillV (fieldOf ty fs) (zeroV ti) (ps.toList.map fun p => (p.1, ev p.2)) = some cs) ∨
      (∃ n e te, ti.tk = .arr n e ∧ ty e = some te ∧ fillV (fun i => some (i * te.size, te.size)) (zeroV ti) (ps.toList.map fun p => (p.1, ev p.2)) = some cs)) :
    ∃ v, (Instr.build t (ps.map fun (i, x) => (i, ae x))).run P w = .ok v w ∧ Rel ρ M w (.agg cs) v := by
  have h0 := hty _ _ ht
  obtain ⟨z, h1, h2⟩ := h0.zeroValue (w := w)
  have hk := h0.tk
  have hz : RelL ρ M w (zeroV ti) z.cells.toList := by rw [h2]; exact RelL.map_c _
  have hps : (ps.map fun (i, x) => (i, ae x)).toList = ps.toList.map fun p => (p.1, ae p.2) := by simp
  rcases hb with ⟨fs, h3, h4, h5⟩ | ⟨n, e, te, h3, h4, h5⟩
  · rw [h3] at hk
    obtain ⟨fields, h6, h7, h8⟩ := hk
    have hall : ∀ f ∈ fields.toList, ∃ ti, ty f.type = some ti := by
      intro f hf
      have := List.all_eq_true.mp h4 (f.type, f.offset) (by rw [← h7]; exact List.mem_map.mpr ⟨f, hf, rfl⟩)
      exact Option.isSome_iff_exists.mp this
    have hm := run_mapM_places (P := P) (w := w) hty fields.toList hall
    have hpl : ∀ i p, fieldOf ty fs i = some p → (fields.toList.map fun f => (f.offset, ((ty f.type).map (·.size)).getD 0)).toArray[i]? = some p := by
      rintro i ⟨off, size⟩ hp
      obtain ⟨t', ti', a1, a2, a3⟩ := fieldOf_eq hp
      obtain ⟨f, b1, b2, b3⟩ := field_row h7 a1
      simp only [List.getElem?_toArray, List.getElem?_map]
      have : fields.toList[i]? = some f := by simpa using b1
      rw [this]
      simp [b2, b3, a2, a3]
    obtain ⟨ys, c1, c2⟩ := fillV_ok hpl _ (ps.toList.map fun p => (p.1, ae p.2)) _ _ _ h5 hz (by simp) (evPairs he ps.toList)
    refine ⟨.agg ys, ?_, by simp only [Rel]; exact ⟨ys, rfl, c2⟩⟩
    simp only [Instr.build, Sem.run_bind, h1, Result.andThen_ok, run_underlying h6, Array.mapM_eq_mapM_toList, Sem.run_map, hm]
    rw [hps]
    simp only [Sem.run_bind, Sem.run_map, hm, Result.andThen_ok, c1, Sem.run_pure]
  · rw [h3] at hk
    simp only [tkOK] at hk
    obtain ⟨ys, c1, c2⟩ := fillV_ok (pl' := fun i => some (i * te.size, te.size)) (fun i p hp => hp) _ (ps.toList.map fun p => (p.1, ae p.2)) _ _ _ h5 hz (by simp) (evPairs he ps.toList)
    refine ⟨.agg ys, ?_, by simp only [Rel]; exact ⟨ys, rfl, c2⟩⟩
    simp only [Instr.build, Sem.run_bind, h1, Result.andThen_ok, run_underlying hk, (hty _ _ h4).sizeOf]
    rw [hps]
    simp only [c1, Sem.run_pure]

end
end Go.Proofs.Ytnjlpjdncejfcaa.Ev
