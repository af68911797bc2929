/-
  The evaluator's theorems in the form in which a function's printed text calls them. (A text of ours; no condition.)
-/
import Derived.Test.YtlofhdoefjmabaaEvCodeOK
namespace Go.Proofs.Ytlofhdoefjmabaa.Ev
set_option linter.unusedVariables false

theorem tyok_of {P : Program} {t : Nat} {ti : TI} (hi : (P.info? t).isSome = true) (hs : ((P.info? t).getD default).size = ti.size) (hb : ((P.info? t).getD default).bytes = ti.bytes) (hz : ((P.info? t).getD default).zero.isSome = true)
    (hc : (((P.info? t).getD default).zero.getD undef).cells.toList = ti.zero) (hl : ti.zero.length = ti.size) (ho : (ti.isAgg || Nat.beq ti.size 1) = true) (hk : tkOK P t ti.tk) (he : (!ti.isAgg || (!P.stoodInHeld t && !P.eqGuardType P.depth t)) = true) : TyOK1 P t ti := by
  cases h : P.info? t with
  | none => rw [h] at hi; cases hi
  | some i =>
    rw [h] at hs hb hz hc
    simp only [Option.getD_some] at hs hb hz hc
    cases h2 : i.zero with
    | none => rw [h2] at hz; cases hz
    | some z =>
      rw [h2] at hc
      simp only [Option.getD_some] at hc
      refine ⟨⟨i, h, hs, hb, z, h2, hc⟩, hl, fun ha => ?_, hk, fun ha => ?_⟩
      · rw [ha] at ho; exact beq_eq ho
      · rw [ha] at he
        simpa using he

theorem tk_struct {P : Program} {t : Nat} {fields : Array Field} {fs : List (Nat × Nat)} (h1 : P.underlying t = some (.struct fields)) (h2 : fields.toList.map (fun f => (f.type, f.offset)) = fs) (h3 : fields.toList.all (fun f => !(f.name == "_")) = true) : tkOK P t (.struct fs) :=
  ⟨fields, h1, h2, fun f hf => by
    rw [List.all_eq_true] at h3
    have := h3 f hf
    simpa using this⟩

theorem TyOK.nil {P : Program} : TyOK P (lookN []) := fun _ _ h => by cases h
theorem TyOK.cons {P : Program} {t : Nat} {ti : TI} {l : List (Nat × TI)} (h : TyOK1 P t ti) (r : TyOK P (lookN l)) : TyOK P (lookN ((t, ti) :: l)) := by
  intro t' ti' ht
  simp only [lookN] at ht
  cases hb : Nat.beq t t' <;> rw [hb] at ht <;> simp only [cond_true, cond_false] at ht
  · exact r t' ti' ht
  · have := beq_eq hb; subst this
    simp only [Option.some.injEq] at ht; subst ht; exact h

def TabOK1 (P : Program) (f : Nat) (e : Entry) : Prop := ∀ args bs a enc, e.dec args bs = some (some a, enc) → FnSpec P f args bs (enc a).1 (enc a).2
theorem TabOK.nil {P : Program} : TabOK P (lookN []) := fun _ _ h => by cases h
theorem TabOK.cons {P : Program} {f : Nat} {e : Entry} {l : List (Nat × Entry)} (h : TabOK1 P f e) (r : TabOK P (lookN l)) : TabOK P (lookN ((f, e) :: l)) := by
  intro f' e' ht
  simp only [lookN] at ht
  cases hb : Nat.beq f f' <;> rw [hb] at ht <;> simp only [cond_true, cond_false] at ht
  · exact r f' e' ht
  · have := beq_eq hb; subst this
    simp only [Option.some.injEq] at ht; subst ht; exact h

def AllCut (P : Program) (fn : Func) (E : Env) (l : List Code) : Prop := ∀ b ∈ l, CutOK P fn E b
theorem AllCut.nil {P : Program} {fn : Func} {E : Env} : AllCut P fn E [] := fun _ h => by cases h
theorem AllCut.cons {P : Program} {fn : Func} {E : Env} {c : Code} {l : List Code} (h : CutOK P fn E c) (r : AllCut P fn E l) : AllCut P fn E (c :: l) := fun b hb => by
  rcases List.mem_cons.mp hb with rfl | hb
  · exact h
  · exact r b hb
theorem AllCut.of {P : Program} {fn : Func} {E : Env} {l l' : List Code} (he : l' = l) (h : AllCut P fn E l) : AllCut P fn E l' := he ▸ h
theorem cut_scope {P : Program} {fn : Func} {E : Env} {b : Code} (h : (E.cut (1000000 + loopKey b)).isNone = true) : CutOK P fn E (.scope b) := fun e hd he => by rw [he] at h; cases h
theorem cut_loop {P : Program} {fn : Func} {E : Env} {b : Code} (h : (E.cut (loopKey b)).isNone = true) : CutOK P fn E (.loop b) := fun e hd he => by rw [he] at h; cases h

/-- A scope with jumps, gone through. -/
theorem scope_ok {P : Program} {fn : Func} {E : Env} (hE : EnvOK P E) (hmix : P.follows .mixedOrders = true) (hres : E.res = fn.results.toList) {d : Nat} {b : Code} {hd : Hint} (hcut : AllCut P fn E (subLoops b)) {R : Type} {n : Nat} {vs : List V} {H : List Blk} {k : Ex → St → Option R} {r : R}
    (h : evScope E.nb hd (fun c s k => evCode E d c s k) b n b vs H k = some r) : ∃ ex s', k ex s' = some r ∧ SpOK P fn E (.scope b) ⟨mkT hd.keep vs, H⟩ ex s' := by
  obtain ⟨ex, s', g1, g2⟩ := evScope_ok (f := fun c s k => evCode E d c s k) (body := b) (fun c hc => evCode_ok hE hmix hres d c (fun x hx => hcut x (hc x hx))) n b vs H k r (fun _ hx => hx) h
  exact ⟨ex, s', g1, fun S a w hnb hI => wp_scope_passes n (g2 S a w hnb hI)⟩

end Go.Proofs.Ytlofhdoefjmabaa.Ev
