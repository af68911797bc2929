/-
  The evaluator's theorems in the form in which a function's printed text calls them. (A text of ours; no condition.)
-/
import Derived.Test.YtnjlpjdncejfcaaEvCodeOK
namespace Go.Proofs.Ytnjlpjdncejfcaa.Ev
set_option linter.unusedVariables false

theorem tyok_of {P : Program} {t : Nat} {ti : TI} (hi : (P.info? t).isSome = true) (hs : ((P.info? t).getD default).size = ti.size) (hb : ((P.info? t).getD default).bytes = ti.bytes) (hz : ((P.info? t).getD default).zero.isSome = true)
    (hc : (((P.info? t).getD default).zero.getD undef).cells.toList = ti.zero) (hl : ti.zero.length = ti.size) (ho : (ti.isAgg || Nat.beq ti.size 1) = true) (hk : tkOK P t ti.tk) (he : (!ti.isAgg || (!P.stoodInHeld t && !P.eqGuardType P.depth t)) = true) : TyOK1 P t ti := by
  cases h : P.info? t with
  | none => rw [h] at hi; cases hi
  | some i =>
    rw [h] at hs hb hz hc
    simp only [Option.getD_some] at hs hb hz hc
    cases h2 : i.zero with
    | none => rw [h2] at hz; cases hz
    | some z =>
      rw [h2] at hc
      simp only [Option.getD_some] at hc
      refine ⟨⟨i, h, hs, hb, z, h2, hc⟩, hl, fun ha => ?_, hk, fun ha => ?_⟩
      · rw [ha] at ho; exact beq_eq ho
      · rw [ha] at he
        simpa using he

theorem tk_struct {P : Program} {t : Nat} {fields : Array Field} {fs : List (Nat × Nat)} (h1 : P.underlying t = some (.struct fields)) (h2 : fields.toList.map (fun f => (f.type, f.offset)) = fs) (h3 : fields.toList.all (fun f => !(f.name == "_")) = true) : tkOK P t (.struct fs) :=
  ⟨fields, h1, h2, fun f hf => by
    rw [List.all_eq_true] at h3
    have := h3 f hf
    simpa using this⟩

theorem TyOK.nil {P : Program} : TyOK P (lookN []) := fun _ _ h => by cases h
theorem TyOK.cons {P : Program} {t : Nat} {ti : TI} {l : List (Nat × TI)} (h : TyOK1 P t ti) (r : TyOK P (lookN l)) : TyOK P (lookN ((t, ti) :: l)) := by
  intro t' ti' ht
  simp only [lookN] at ht
  cases hb : Nat.beq t t' <;> rw [hb] at ht <;> simp only [cond_true, cond_false] at ht
  · exact r t' ti' ht
  · have := beq_eq hb; subst this
    simp only [Option.some.injEq] at ht; subst ht; exact h

def TabOK1 (P : Program) (f : Nat) (e : Entry) : Prop := ∀ args bs a enc, e.dec args bs = some (some a, enc) → FnSpec P f args bs (enc a).pick.1 (enc a).pick.2
theorem TabOK.nil {P : Program} : TabOK P (lookN []) := fun _ _ h => by cases h
theorem TabOK.cons {P : Program} {f : Nat} {e : Entry} {l : List (Nat × Entry)} (h : TabOK1 P f e) (r : TabOK P (lookN l)) : TabOK P (lookN ((f, e) :: l)) := by
  intro f' e' ht
  simp only [lookN] at ht
  cases hb : Nat.beq f f' <;> rw [hb] at ht <;> simp only [cond_true, cond_false] at ht
  · exact r f' e' ht
  · have := beq_eq hb; subst this
    simp only [Option.some.injEq] at ht; subst ht; exact h

def AllCut (P : Program) (fn : Func) (E : Env) (l : List Code) : Prop := ∀ b ∈ l, CutOK P fn E b
theorem AllCut.nil {P : Program} {fn : Func} {E : Env} : AllCut P fn E [] := fun _ h => by cases h
theorem AllCut.cons {P : Program} {fn : Func} {E : Env} {c : Code} {l : List Code} (h : CutOK P fn E c) (r : AllCut P fn E l) : AllCut P fn E (c :: l) := fun b hb => by
  rcases List.mem_cons.mp hb with rfl | hb
  · exact h
  · exact r b hb
theorem AllCut.of {P : Program} {fn : Func} {E : Env} {l l' : List Code} (he : l' = l) (h : AllCut P fn E l) : AllCut P fn E l' := he ▸ h
theorem cut_scope {P : Program} {fn : Func} {E : Env} {b : Code} (h : (E.cut (1000000 + loopKey b)).isNone = true) : CutOK P fn E (.scope b) := fun e hd he => by rw [he] at h; cases h
theorem cut_loop {P : Program} {fn : Func} {E : Env} {b : Code} (h : (E.cut (loopKey b)).isNone = true) : CutOK P fn E (.loop b) := fun e hd he => by rw [he] at h; cases h

/- A whole row taken for a part of one. -/
def asSl (h : Nat → Blk) : V → V
  | .sw id s => (match h id with
    | .ints _ l => .sl id s 0 (cnt s l.length)
    | _ => .sw id s)
  | v => v
def asSlL (h : Nat → Blk) : List Bool → List V → List V
  | true :: bs, v :: r => asSl h v :: asSlL h bs r
  | false :: bs, v :: r => v :: asSlL h bs r
  | _, vs => vs

theorem asSl_ok {F : Nat → Prop} {ρ : Rho} {h : Nat → Blk} {w : World} (hh : HeapRel F ρ h w) {v : V} {u : Value} (hr : Rel ρ (av F (liveM ρ h)) w v u) : Rel ρ (av F (liveM ρ h)) w (asSl h v) u := by
  unfold asSl
  split
  · rename_i id s
    split
    · rename_i k l hid
      obtain ⟨h0, ⟨b, n, C, cap, c, h1, h2, h3, h4, h5, ho, hsz, hold⟩ | ⟨h1, h2, hk⟩⟩ := sw_cells hh hr (by rw [hid]; trivial)
      · rw [hid] at hold
        obtain ⟨e1, e2, e3⟩ := hold
        simp only [Rel]
        have hn : n / s * s = n := Nat.div_mul_cancel (Nat.dvd_of_mod_eq_zero h2)
        refine ⟨h0, .inl ⟨b, n, C, cap, h1, ?_, ?_, by omega, ?_⟩⟩
        · rw [cnt_eq, e1]; omega
        · rw [cnt_eq, e1]; exact h3
        · rw [cnt_eq, e1]; exact h5
      · rw [hid] at hk
        rcases hk with ⟨k2, hk⟩ | hk <;> cases hk
        simp only [Rel]
        exact ⟨h0, .inr ⟨by rw [cnt_eq]; simp, none, h2⟩⟩
    · exact hr
  · exact hr

theorem asSlL_ok {F : Nat → Prop} {ρ : Rho} {h : Nat → Blk} {w : World} (hh : HeapRel F ρ h w) : ∀ (bs : List Bool) (vs : List V) (us : List Value), RelL ρ (av F (liveM ρ h)) w vs us → RelL ρ (av F (liveM ρ h)) w (asSlL h bs vs) us
  | true :: bs, v :: r, [], hr => by simp only [RelL] at hr
  | true :: bs, v :: r, u :: us, hr => by
    simp only [RelL, asSlL] at hr ⊢
    exact ⟨asSl_ok hh hr.1, asSlL_ok hh bs r us hr.2⟩
  | false :: bs, v :: r, [], hr => by simp only [RelL] at hr
  | false :: bs, v :: r, u :: us, hr => by
    simp only [RelL, asSlL] at hr ⊢
    exact ⟨hr.1, asSlL_ok hh bs r us hr.2⟩
  | [], vs, us, hr => by simpa only [asSlL] using hr
  | _ :: _, [], us, hr => by simpa only [asSlL] using hr

theorem FnSpec.of_asSl {P : Program} {f : Nat} {fl : List Bool} {args : List V} {bs : List Blk} {v : V} {bs' : List Blk} (h : FnSpec P f (asSlL (blkAt bs) fl args) bs v bs') : FnSpec P f args bs v bs' :=
  ⟨h.callable, fun F ρ w args' hH hn hr => h.calls F ρ w args' hH hn (asSlL_ok hH fl args args' hr)⟩

/-- What was handed in is looked at no more. -/
theorem FnSpec.kill {P : Program} {f : Nat} {args : List V} {bs : List Blk} {v : V} {bs' : List Blk} (h : FnSpec P f args bs v bs') : FnSpec P f args bs v (List.replicate bs'.length .dead) := by
  refine ⟨h.callable, fun F ρ w args' hH hn hr => Calls.mono (h.calls F ρ w args' hH hn hr) ?_⟩
  rintro e w' ⟨u, he, ρ', h1, h2, h3, h4, h5⟩
  have hd : ∀ id, ¬ (blkAt (List.replicate bs'.length Blk.dead) id).live := fun id hl => by
    rw [blkAt_getD, List.getD_eq_getElem?_getD, List.getElem?_replicate] at hl
    split at hl <;> exact hl
  have hM : ∀ b, liveM ρ' (blkAt (List.replicate bs'.length Blk.dead)) b → liveM ρ' (blkAt bs') b := by
    rintro b ⟨id, n, C, _, hl⟩
    exact absurd hl (hd id)
  refine ⟨u, he, ρ', h1, fun id hid => h2 id (by simpa using hid), ⟨h3.wf, fun id hl => absurd hl (hd id), fun i j b n C n' C' hi => absurd hi (hd i), h3.low, fun b hb => h3.out b (hM b hb)⟩, Rel.avoid (fun b hb => hb.imp id (hM b)) _ _ h4, ⟨h5.size, h5.same, fun b hb => h5.sub b (hM b hb), h5.keeps⟩⟩

/-- A scope with jumps, gone through. -/
theorem scope_ok {P : Program} {fn : Func} {E : Env} (hE : EnvOK P E) (hmix : P.follows .mixedOrders = true) (hres : E.res = fn.results.toList) {d : Nat} {b : Code} {hd : Hint} (hcut : AllCut P fn E (subLoops b)) {R : Type} {n : Nat} {vs : List V} {H : List Blk} {k : Ex → St → Option R} {r : R}
    (h : evScope E.nb hd (fun c s k => evCode E d c s k) b n b vs H k = some r) : ∃ ex s', k ex s' = some r ∧ SpOK P fn E (.scope b) ⟨mkT hd.keep vs, H⟩ ex s' := by
  obtain ⟨ex, s', g1, g2⟩ := evScope_ok (f := fun c s k => evCode E d c s k) (body := b) (fun c hc => evCode_ok hE hmix hres d c (fun x hx => hcut x (hc x hx))) n b vs H k r (fun _ hx => hx) h
  exact ⟨ex, s', g1, fun S a w hnb hI => wp_scope_passes n (g2 S a w hnb hI)⟩

end Go.Proofs.Ytnjlpjdncejfcaa.Ev
