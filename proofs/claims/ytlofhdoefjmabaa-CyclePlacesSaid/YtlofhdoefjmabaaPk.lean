-- Plain laws: maps as lists, as functions from keys to values.
import Derived.Test.YtlofhdoefjmabaaPj
namespace Go.Proofs.Ytlofhdoefjmabaa.Pure
open Go Go.Proofs.Ytlofhdoefjmabaa.Ev
set_option linter.unusedVariables false
set_option linter.unusedSimpArgs false

def mgetG {α : Type} (z : α) (l : List Int) (ks : List (List Int)) (vs : List α) : α := match mpos l ks 0 with
  | some j => vs.getD j z
  | none => z
theorem mgetI_eq (l : List Int) (ks : List (List Int)) (vs : List Int) : mgetI l ks vs = mgetG 0 l ks vs := rfl
theorem mgetB_eq (l : List Int) (ks : List (List Int)) (vs : List Bool) : mgetB l ks vs = mgetG false l ks vs := rfl

theorem mpos_some : ∀ (l : List Int) (ks : List (List Int)) (n j : Nat), mpos l ks n = some j → n ≤ j ∧ j - n < ks.length ∧ ks.getD (j - n) [] = l
  | l, [], n, j, h => by cases h
  | l, k :: ks, n, j, h => by
    simp only [mpos] at h
    cases hb : eqL l k <;> rw [hb] at h <;> simp only [cond_true, cond_false] at h
    · obtain ⟨h1, h2, h3⟩ := mpos_some l ks (n + 1) j h
      have e : j - n = (j - (n + 1)) + 1 := by omega
      exact ⟨by omega, by simp; omega, by rw [e]; simpa using h3⟩
    · simp only [Option.some.injEq] at h
      subst h
      have := (eqL_iff l k).mp hb
      subst this
      exact ⟨Nat.le_refl _, by simp, by simp⟩
theorem mpos_app : ∀ (l m : List Int) (ks : List (List Int)) (n : Nat), mpos l (ks ++ [m]) n = match mpos l ks n with
    | some j => some j
    | none => if l = m then some (n + ks.length) else none
  | l, m, [], n => by
    simp only [List.nil_append, mpos]
    by_cases h : l = m
    · subst h; rw [(eqL_iff l l).mpr rfl]; simp
    · have : eqL l m = false := by
        cases hb : eqL l m
        · rfl
        · exact absurd ((eqL_iff l m).mp hb) h
      rw [this]; simp [h]
  | l, m, k :: ks, n => by
    simp only [List.cons_append, mpos]
    cases hb : eqL l k <;> simp only [cond_true, cond_false]
    rw [mpos_app l m ks (n + 1)]
    have e : n + 1 + ks.length = n + (k :: ks).length := by simp; omega
    rw [e]

theorem mput_len {α : Type} (l : List Int) (x : α) (ks : List (List Int)) (vs : List α) (h : ks.length = vs.length) : (mputK l ks).length = (mput l x ks vs).length := by
  unfold mputK mput mhas
  cases mpos l ks 0 <;> simp [h]
/-- A value put, and looked up. -/
theorem mget_put {α : Type} (z : α) (l l' : List Int) (x : α) (ks : List (List Int)) (vs : List α) (h : ks.length = vs.length) : mgetG z l' (mputK l ks) (mput l x ks vs) = if l' = l then x else mgetG z l' ks vs := by
  unfold mputK mput mhas mgetG
  cases hp : mpos l ks 0 with
  | some j =>
    obtain ⟨_, h1, h2⟩ := mpos_some l ks 0 j hp
    simp only [Option.isSome_some, cond_true, Nat.sub_zero] at h1 h2 ⊢
    by_cases e : l' = l
    · subst e
      rw [if_pos rfl, hp]
      simp only [List.getD_eq_getElem?_getD]
      rw [List.getElem?_set_self (by omega)]
      rfl
    · rw [if_neg e]
      cases hq : mpos l' ks 0 with
      | none => rfl
      | some j' =>
        obtain ⟨_, h3, h4⟩ := mpos_some l' ks 0 j' hq
        simp only [Nat.sub_zero] at h3 h4
        have hne : j ≠ j' := by rintro rfl; rw [h2] at h4; exact e h4.symm
        simp only [List.getD_eq_getElem?_getD]
        rw [List.getElem?_set_ne hne]
  | none =>
    simp only [Option.isSome_none, cond_false]
    rw [mpos_app]
    cases hq : mpos l' ks 0 with
    | some j' =>
      obtain ⟨_, h3, h4⟩ := mpos_some l' ks 0 j' hq
      simp only [Nat.sub_zero] at h3 h4
      have e : l' ≠ l := by rintro rfl; rw [hp] at hq; cases hq
      simp only [if_neg e, List.getD_eq_getElem?_getD]
      rw [List.getElem?_append_left (by omega)]
    | none =>
      by_cases e : l' = l
      · simp only [if_pos e, Nat.zero_add]
        simp only [List.getD_eq_getElem?_getD]
        rw [h, List.getElem?_append_right (Nat.le_refl _)]
        simp
      · simp only [if_neg e]
theorem mget_nil {α : Type} (z : α) (l : List Int) : mgetG z l [] ([] : List α) = z := rfl

end Go.Proofs.Ytlofhdoefjmabaa.Pure
