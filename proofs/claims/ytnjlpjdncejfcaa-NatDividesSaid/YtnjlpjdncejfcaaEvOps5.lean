/-
  The evaluator's operations, fourth part: pieces laid together, blocks made, read and written. (A text of ours; no condition.)
-/
import Derived.Test.YtnjlpjdncejfcaaEvOps4
namespace Go.Proofs.Ytnjlpjdncejfcaa.Ev
set_option linter.unusedVariables false
set_option linter.unusedSimpArgs false

section
variable {P : Program} {F : Nat → Prop} {ρ : Rho} {M : Nat → Prop} {h : Nat → Blk} {w : World} {nid : Nat} {ty : Nat → Option TI}

theorem RelL.map_c : ∀ (vs : List Value), RelL ρ M w (vs.map .c) vs
  | [] => by simp [RelL]
  | v :: vs => by simp only [List.map_cons, RelL]; exact ⟨Rel.of_c v, RelL.map_c vs⟩

theorem setVals_eq : ∀ {cs : List V} {off : Nat} {vs r : List V}, setVals cs off vs = some r → r = cs.take off ++ vs ++ cs.drop (off + vs.length) ∧ (vs ≠ [] → off + vs.length ≤ cs.length)
  | cs, off, [], r, h => by
    cases cs <;> cases off <;> simp [setVals] at h <;> subst h <;> simp
  | [], off, v :: vs, r, h => by cases off <;> simp [setVals] at h
  | c :: cs, 0, v :: vs, r, h => by
    simp only [setVals, Option.map_eq_some_iff] at h
    obtain ⟨r', h1, h2⟩ := h
    obtain ⟨h3, h4⟩ := setVals_eq h1
    subst h2; subst h3
    refine ⟨by simp, fun _ => ?_⟩
    cases vs with
    | nil => simp
    | cons u us => have := h4 (by simp); simp at this ⊢; omega
  | c :: cs, off + 1, v :: vs, r, h => by
    simp only [setVals, Option.map_eq_some_iff] at h
    obtain ⟨r', h1, h2⟩ := h
    obtain ⟨h3, h4⟩ := setVals_eq h1
    subst h2; subst h3
    refine ⟨?_, fun _ => ?_⟩
    · have : off + 1 + (v :: vs).length = off + (v :: vs).length + 1 := by omega
      rw [this]; simp
    · have := h4 (by simp); simp at this ⊢; omega

theorem RelL.splice {cs vs : List V} {xs ys : List Value} (off : Nat) (h1 : RelL ρ M w cs xs) (h2 : RelL ρ M w vs ys) :
    RelL ρ M w (cs.take off ++ vs ++ cs.drop (off + vs.length)) (xs.take off ++ ys ++ xs.drop (off + ys.length)) := by
  rw [← h2.length]
  exact ((h1.take off).append h2).append (h1.drop _)

/-- The model's way of laying a part over cells. -/
theorem fold_set (off : Nat) : ∀ (vs : List Value) (i : Nat) (cs : Array Value), off + i + vs.length ≤ cs.size →
    ((vs.zipIdx i).foldl (fun (cs : Array Value) (p : Value × Nat) => cs.setIfInBounds (off + p.2) p.1) cs).toList = cs.toList.take (off + i) ++ vs ++ cs.toList.drop (off + i + vs.length)
  | [], i, cs, h => by simp
  | v :: vs, i, cs, h => by
    simp only [List.length_cons] at h
    rw [List.zipIdx_cons, List.foldl_cons, fold_set off vs (i + 1) _ (by simp; omega)]
    simp only [Array.toList_setIfInBounds]
    apply List.ext_getElem?
    intro j
    simp only [List.append_assoc]
    by_cases h1 : j < off + i
    · rw [List.getElem?_append_left (by simp; omega), List.getElem?_append_left (by simp; omega)]
      rw [List.getElem?_take_of_lt (by omega), List.getElem?_take_of_lt h1]
      rw [List.getElem?_set_ne (by omega)]
    · rw [List.getElem?_append_right (l₁ := List.take (off + i) _) (by simp; omega)]
      simp only [List.length_take, Array.length_toList]
      have e1 : min (off + i) cs.size = off + i := by omega
      rw [e1]
      by_cases h2 : j = off + i
      · subst h2
        rw [List.getElem?_append_left (by simp; omega), List.getElem?_take_of_lt (by omega)]
        have hlt : off + i < cs.toList.length := by simp; omega
        rw [List.getElem?_set_self hlt, Nat.sub_self]
        rfl
      · rw [List.getElem?_append_right (by simp; omega)]
        simp only [List.length_take, List.length_set, Array.length_toList]
        have e2 : min (off + (i + 1)) cs.size = off + (i + 1) := by omega
        rw [e2]
        have e3 : j - (off + i) = (j - (off + (i + 1))) + 1 := by omega
        rw [e3, List.cons_append, List.getElem?_cons_succ]
        by_cases h3 : j - (off + (i + 1)) < vs.length
        · rw [List.getElem?_append_left h3, List.getElem?_append_left h3]
        · rw [List.getElem?_append_right (by omega), List.getElem?_append_right (by omega)]
          simp only [List.getElem?_drop, List.length_cons]
          rw [List.getElem?_set_ne (by omega)]
          congr 1
          omega

theorem fillV_ok {pl : Nat → Option (Nat × Nat)} {pl' : Nat → Option (Nat × Nat)} (hpl : ∀ i p, pl i = some p → pl' i = some p) : ∀ (ps : List (Nat × V)) (qs : List (Nat × Value)) (cs r : List V) (xs : Array Value), fillV pl cs ps = some r →
    RelL ρ M w cs xs.toList → ps.length = qs.length → (∀ (j : Nat) p q, ps[j]? = some p → qs[j]? = some q → p.1 = q.1 ∧ Rel ρ M w p.2 q.2) → ∃ ys, Instr.fill pl' xs qs = some ys ∧ RelL ρ M w r ys.toList
  | [], [], cs, r, xs, hf, hr, _, _ => by simp [fillV] at hf; subst hf; exact ⟨xs, by simp [Instr.fill], hr⟩
  | [], _ :: _, _, _, _, _, _, h, _ => by simp at h
  | _ :: _, [], _, _, _, _, _, h, _ => by simp at h
  | (i, v) :: ps, (j, u) :: qs, cs, r, xs, hf, hr, hl, hp => by
    obtain ⟨h1, h2⟩ := hp 0 _ _ rfl rfl
    dsimp only at h1 h2
    subst h1
    simp only [fillV] at hf
    split at hf
    · cases hf
    · rename_i off size hpi
      split at hf
      · rename_i vs hvs
        cases hb : (Nat.beq vs.length size && Nat.blt 0 size) with
        | false => simp [hb] at hf
        | true =>
          simp only [hb, cond_true] at hf
          rw [Bool.and_eq_true] at hb
          have hsz := Nat.eq_of_beq_eq_true hb.1
          have hpos : 0 < size := blt_lt hb.2
          split at hf
          · rename_i cs' hcs
            have hc := Rel.cells h2 hvs
            obtain ⟨h3, h4⟩ := setVals_eq hcs
            have hlen := hc.length
            have hlen2 := hr.length
            have hus : u.cells.size = size := by simp at hlen; omega
            have hbig : off + u.cells.size ≤ xs.size := by
              have := h4 (by rintro rfl; simp at hsz; omega)
              simp at hlen hlen2; omega
            have h6 : RelL ρ M w cs' (u.cells.zipIdx.foldl (fun (cs : Array Value) (p : Value × Nat) => cs.setIfInBounds (off + p.2) p.1) xs).toList := by
              have e := fold_set off u.cells.toList 0 xs (by simpa using hbig)
              have e2 : (u.cells.zipIdx.foldl (fun (cs : Array Value) (p : Value × Nat) => cs.setIfInBounds (off + p.2) p.1) xs) = ((u.cells.toList.zipIdx 0).foldl (fun (cs : Array Value) (p : Value × Nat) => cs.setIfInBounds (off + p.2) p.1) xs) := by
                rw [← Array.foldl_toList, Array.toList_zipIdx]
              rw [e2, e, h3]
              simp only [Nat.add_zero]
              exact RelL.splice off hr hc
            obtain ⟨ys, h7, h8⟩ := fillV_ok hpl ps qs cs' r _ hf h6 (by simpa using hl) (fun j p q hj hq => hp (j + 1) p q (by simpa using hj) (by simpa using hq))
            refine ⟨ys, ?_, h8⟩
            simp only [Instr.fill, hpl _ _ hpi]
            rw [if_neg (by simp; exact ⟨hus, hbig⟩)]
            exact h7
          · cases hf
      · cases hf

end
end Go.Proofs.Ytnjlpjdncejfcaa.Ev
