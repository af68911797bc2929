/-
  The evaluator's code is sound. (A text of ours; no condition.)
-/
import Derived.Test.YtlofhdoefjmabaaEvE
import Derived.LoopN
import Derived.Scope
import Derived.WalkKit
import Derived.ProofKit
import Derived.OpenShut
import Derived.ShutString
import Derived.ChangeOld
import Derived.Below
import Derived.SizedLaws
import Derived.ChangeSlices
import Derived.Deep.SlicePairs
namespace Go.Proofs.Ytlofhdoefjmabaa.Ev
set_option linter.unusedVariables false
set_option linter.unusedSimpArgs false

/- A scope with jumps -/
def passes (P : Program) (body : Code) (Q : Exit → Act → World → Prop) : Nat → Code → Act → World → Prop
  | 0, _, _, _ => False
  | n + 1, c, a, w => c.wp P (fun e a' w' => match e with
    | .goto l => ∃ rest, findLabel body l = some rest ∧ passes P body Q n rest a' w'
    | e => Q e a' w') a w

theorem wp_scope_passes {P : Program} {body : Code} {Q : Exit → Act → World → Prop} {a : Act} {w : World} (n : Nat) (h : passes P body Q n body a w) : (Code.scope body).wp P Q a w := by
  intro b k cs
  have key : ∀ n c a w, passes P body Q n c a w → ∃ e a' w', Q e a' w' ∧ Arrives P (lone (b.at a (.code c :: .inScope body :: k)) cs w) b k cs e a' w' := by
    intro n
    induction n with
    | zero => intro c a w h; exact h.elim
    | succ n ih =>
      intro c a w h
      obtain ⟨e, a₁, w₁, hq, harr⟩ := h b (.inScope body :: k) cs
      cases e with
      | normal => exact ⟨.normal, a₁, w₁, hq, Steps.trans harr (.one step_inScope)⟩
      | exit id => exact ⟨.exit id, a₁, w₁, hq, fun k' hk => harr k' (by simp [exitTo, hk])⟩
      | goto l =>
        obtain ⟨rest, hf, hp⟩ := hq
        obtain ⟨e₂, a₂, w₂, hq₂, harr₂⟩ := ih rest a₁ w₁ hp
        exact ⟨e₂, a₂, w₂, hq₂, .of_steps (harr _ (by simp [gotoIn, hf])) harr₂⟩
      | ret => exact ⟨_, a₁, w₁, hq, harr⟩
      | panic ch => exact ⟨_, a₁, w₁, hq, harr⟩
      | outgrown => exact ⟨_, a₁, w₁, hq, harr⟩
  obtain ⟨e, a₁, w₁, hq, harr⟩ := key n body a w h
  exact ⟨e, a₁, w₁, hq, .of_steps (.one step_scope) harr⟩

theorem subLoops_label : ∀ (c : Code) (l : Nat) (rest : Code), findLabel c l = some rest → ∀ x ∈ subLoops rest, x ∈ subLoops c
  | .seq a b, l, rest, h, x, hx => by
    simp only [findLabel] at h
    split at h
    · rename_i r hr
      simp only [Option.some.injEq] at h
      subst h
      simp only [subLoops, List.mem_append] at hx ⊢
      exact hx.imp (subLoops_label a l r hr x) (fun y => y)
    · simp only [subLoops, List.mem_append]
      exact .inr (subLoops_label b l rest h x hx)
  | .label l', l, rest, h, x, hx => by
    simp only [findLabel] at h
    split at h
    · simp only [Option.some.injEq] at h; subst h; simp [subLoops] at hx
    · cases h
  | .skip, _, _, h, _, _ => by simp [findLabel] at h
  | .region .., _, _, h, _, _ => by simp [findLabel] at h
  | .cond .., _, _, h, _, _ => by simp [findLabel] at h
  | .block .., _, _, h, _, _ => by simp [findLabel] at h
  | .loop .., _, _, h, _, _ => by simp [findLabel] at h
  | .scope .., _, _, h, _, _ => by simp [findLabel] at h
  | .exit .., _, _, h, _, _ => by simp [findLabel] at h
  | .goto .., _, _, h, _, _ => by simp [findLabel] at h
  | .ret, _, _, h, _, _ => by simp [findLabel] at h
  | .rangeFunc .., _, _, h, _, _ => by simp [findLabel] at h
  | .refuse .., _, _, h, _, _ => by simp [findLabel] at h

section
variable {P : Program} {fn : Func} {E : Env}

/-- How a run ends. -/
def Is (P : Program) (fn : Func) (E : Env) (S : Start) : Ex → St → Exit → Act → World → Prop
  | .normal, s, x, a, w => x = .normal ∧ Inv E S s a w
  | .exit i, s, x, a, w => x = .exit i ∧ Inv E S s a w
  | .goto l, s, x, a, w => x = .goto l ∧ Inv E S s a w
  | .ret v bs, _, x, a, w => x = .ret ∧ RetOK P fn S v bs a w

def SpOK (P : Program) (fn : Func) (E : Env) (c : Code) (s : St) (ex : Ex) (s' : St) : Prop :=
  ∀ S a w, E.nb = S.bs.length → Inv E S s a w → c.wp P (Is P fn E S ex s') a w

def CutOK (P : Program) (fn : Func) (E : Env) : Code → Prop
  | .loop b => ∀ e hd, E.cut (loopKey b) = some e → E.hint (loopKey b) = some hd → ∀ (R : Type) vs H (k : Ex → St → Option R) r, e.run vs H k = some r → ∃ ex s', k ex s' = some r ∧ SpOK P fn E (.loop b) ⟨mkT hd.keep vs, H⟩ ex s'
  | .scope b => ∀ e hd, E.cut (1000000 + loopKey b) = some e → E.hint (1000000 + loopKey b) = some hd → ∀ (R : Type) vs H (k : Ex → St → Option R) r, e.run vs H k = some r → ∃ ex s', k ex s' = some r ∧ SpOK P fn E (.scope b) ⟨mkT hd.keep vs, H⟩ ex s'
  | _ => True

/-- A piece of code as the evaluator goes through it. -/
def PieceOK (P : Program) (fn : Func) (E : Env) (c : Code) (f : {R : Type} → St → (Ex → St → Option R) → Option R) : Prop :=
  ∀ (R : Type) s (k : Ex → St → Option R) r, f s k = some r → ∃ ex s', k ex s' = some r ∧ SpOK P fn E c s ex s'

theorem evLoop_ok {b : Code} {hd : Hint} {f : {R : Type} → St → (Ex → St → Option R) → Option R} (hf : PieceOK P fn E b f) {R : Type} : ∀ (n : Nat) (vs : List V) (H : List Blk) (k : Ex → St → Option R) (r : R), evLoop E.nb hd f n vs H k = some r →
    ∃ ex s', k ex s' = some r ∧ ∀ S a w, E.nb = S.bs.length → Inv E S ⟨mkT hd.keep vs, H⟩ a w → Code.rounds P b (Is P fn E S ex s') n a w := by
  intro n
  induction n with
  | zero => intro vs H k r h; cases h
  | succ n ih =>
    intro vs H k r h
    unfold evLoop at h
    obtain ⟨ex, s1, h1, h2⟩ := hf R _ _ _ h
    cases ex with
    | normal =>
      dsimp only at h1
      split at h1
      · rename_i vs' H' hn
        obtain ⟨ex, s', g1, g2⟩ := ih _ _ _ _ h1
        refine ⟨ex, s', g1, fun S a w hnb hI => ?_⟩
        rw [rounds_succ]
        refine wp_mono (h2 S a w hnb hI) ?_
        rintro x a' w' ⟨rfl, hI'⟩
        exact g2 S a' w' hnb (norm_ok hn hI')
      · cases h1
    | ret v bs =>
      refine ⟨.ret v bs, .nil, h1, fun S a w hnb hI => ?_⟩
      rw [rounds_succ]
      refine wp_mono (h2 S a w hnb hI) ?_
      rintro x a' w' ⟨rfl, hI'⟩
      exact ⟨rfl, hI'⟩
    | exit i =>
      dsimp only at h1
      split at h1
      · rename_i vs' H' hn
        refine ⟨.exit i, _, h1, fun S a w hnb hI => ?_⟩
        rw [rounds_succ]
        refine wp_mono (h2 S a w hnb hI) ?_
        rintro x a' w' ⟨rfl, hI'⟩
        exact ⟨rfl, norm_ok hn hI'⟩
      · cases h1
    | goto l =>
      dsimp only at h1
      split at h1
      · rename_i vs' H' hn
        refine ⟨.goto l, _, h1, fun S a w hnb hI => ?_⟩
        rw [rounds_succ]
        refine wp_mono (h2 S a w hnb hI) ?_
        rintro x a' w' ⟨rfl, hI'⟩
        exact ⟨rfl, norm_ok hn hI'⟩
      · cases h1

theorem loop_ok {b : Code} {hd : Hint} {f : {R : Type} → St → (Ex → St → Option R) → Option R} (hf : PieceOK P fn E b f) {R : Type} {n : Nat} {vs : List V} {H : List Blk} {k : Ex → St → Option R} {r : R} (h : evLoop E.nb hd f n vs H k = some r) :
    ∃ ex s', k ex s' = some r ∧ SpOK P fn E (.loop b) ⟨mkT hd.keep vs, H⟩ ex s' := by
  obtain ⟨ex, s', h1, h2⟩ := evLoop_ok hf n vs H k r h
  exact ⟨ex, s', h1, fun S a w hnb hI => wp_loop_rounds n (h2 S a w hnb hI)⟩

theorem evScope_ok {body : Code} {hd : Hint} {f : {R : Type} → Code → St → (Ex → St → Option R) → Option R} (hf : ∀ c, (∀ x ∈ subLoops c, x ∈ subLoops body) → PieceOK P fn E c (fun s k => f c s k)) {R : Type} : ∀ (n : Nat) (c : Code) (vs : List V) (H : List Blk) (k : Ex → St → Option R) (r : R), (∀ x ∈ subLoops c, x ∈ subLoops body) →
    evScope E.nb hd f body n c vs H k = some r → ∃ ex s', k ex s' = some r ∧ ∀ S a w, E.nb = S.bs.length → Inv E S ⟨mkT hd.keep vs, H⟩ a w → passes P body (Is P fn E S ex s') n c a w := by
  intro n
  induction n with
  | zero => intro c vs H k r _ h; cases h
  | succ n ih =>
    intro c vs H k r hsub h
    unfold evScope at h
    obtain ⟨ex, s1, h1, h2⟩ := hf c hsub R _ _ _ h
    cases ex with
    | goto l =>
      dsimp only at h1
      split at h1
      · rename_i rest hrest
        split at h1
        · rename_i vs' H' hn
          obtain ⟨ex, s', g1, g2⟩ := ih rest _ _ _ _ (subLoops_label body l rest hrest) h1
          refine ⟨ex, s', g1, fun S a w hnb hI => wp_mono (h2 S a w hnb hI) ?_⟩
          rintro x a' w' ⟨rfl, hI'⟩
          exact ⟨rest, hrest, g2 S a' w' hnb (norm_ok hn hI')⟩
        · cases h1
      · cases h1
    | ret v bs =>
      refine ⟨.ret v bs, .nil, h1, fun S a w hnb hI => wp_mono (h2 S a w hnb hI) ?_⟩
      rintro x a' w' ⟨rfl, hI'⟩
      exact ⟨rfl, hI'⟩
    | normal =>
      dsimp only at h1
      split at h1
      · rename_i vs' H' hn
        refine ⟨.normal, _, h1, fun S a w hnb hI => wp_mono (h2 S a w hnb hI) ?_⟩
        rintro x a' w' ⟨rfl, hI'⟩
        exact ⟨rfl, norm_ok hn hI'⟩
      · cases h1
    | exit i =>
      dsimp only at h1
      split at h1
      · rename_i vs' H' hn
        refine ⟨.exit i, _, h1, fun S a w hnb hI => wp_mono (h2 S a w hnb hI) ?_⟩
        rintro x a' w' ⟨rfl, hI'⟩
        exact ⟨rfl, norm_ok hn hI'⟩
      · cases h1

theorem evCode_ok (hE : EnvOK P E) (hmix : P.follows .mixedOrders = true) (hres : E.res = fn.results.toList) : ∀ (d : Nat) (c : Code), (∀ b ∈ subLoops c, CutOK P fn E b) → PieceOK P fn E c (fun s k => evCode E d c s k) := by
  intro d
  induction d with
  | zero => intro c _ R s k r h; cases h
  | succ d ih =>
    intro c hcut R s k r h
    dsimp only at h
    unfold evCode at h
    cases c with
    | skip => exact ⟨.normal, s, h, fun S a w hnb hI => wp_skip ⟨rfl, hI⟩⟩
    | label l => exact ⟨.normal, s, h, fun S a w hnb hI => wp_label ⟨rfl, hI⟩⟩
    | exit id => exact ⟨.exit id, s, h, fun S a w hnb hI => wp_exit ⟨rfl, hI⟩⟩
    | goto l => exact ⟨.goto l, s, h, fun S a w hnb hI => wp_goto ⟨rfl, hI⟩⟩
    | rangeFunc => cases h
    | refuse => cases h
    | ret =>
      dsimp only at h
      split at h
      · rename_i v bs hf
        exact ⟨.ret v bs, .nil, h, fun S a w hnb hI => wp_ret ⟨rfl, fin_ok hE.ty hres hnb hf hI⟩⟩
      · cases h
    | region id ops draw =>
      obtain ⟨s', h1, h2, h3⟩ := region_ok (id := id) hE hmix h
      refine ⟨.normal, s', h1, fun S a w hnb hI => ?_⟩
      obtain ⟨ρ, r1, r2, r3, r4, r5⟩ := hI
      refine h3 S.F ρ a w _ r1 r2 (fun ρ' a' w' q1 q2 q3 q4 => ⟨rfl, ρ', q1, q2, fun j hj => by rw [q3 j (by omega)]; exact r3 j hj, by omega, r5.trans q4⟩)
    | seq x y =>
      obtain ⟨ex, s1, h1, h2⟩ := ih x (fun b hb => hcut b (by simp [subLoops, hb])) R _ _ _ h
      cases ex with
      | normal =>
        obtain ⟨ex, s', g1, g2⟩ := ih y (fun b hb => hcut b (by simp [subLoops, hb])) R _ _ _ h1
        refine ⟨ex, s', g1, fun S a w hnb hI => wp_seq (wp_mono (h2 S a w hnb hI) ?_)⟩
        rintro e a' w' ⟨rfl, hI'⟩
        exact g2 S a' w' hnb hI'
      | ret v bs =>
        refine ⟨.ret v bs, s1, h1, fun S a w hnb hI => wp_seq (wp_mono (h2 S a w hnb hI) ?_)⟩
        rintro e a' w' ⟨rfl, hI'⟩
        exact ⟨rfl, hI'⟩
      | exit i =>
        refine ⟨.exit i, s1, h1, fun S a w hnb hI => wp_seq (wp_mono (h2 S a w hnb hI) ?_)⟩
        rintro e a' w' ⟨rfl, hI'⟩
        exact ⟨rfl, hI'⟩
      | goto l =>
        refine ⟨.goto l, s1, h1, fun S a w hnb hI => wp_seq (wp_mono (h2 S a w hnb hI) ?_)⟩
        rintro e a' w' ⟨rfl, hI'⟩
        exact ⟨rfl, hI'⟩
    | cond c x y =>
      dsimp only at h
      split at h
      · rename_i b hb
        rw [evO_eq] at hb
        have hev : ∀ {S a w}, Inv E S s a w → a.eval c = .bool b := by
          rintro S a w ⟨ρ, r1, _⟩
          have := r1.ev c
          rw [hb] at this
          simpa only [Rel] using this
        cases b <;> simp only [cond_true, cond_false] at h
        · obtain ⟨ex, s1, h1, h2⟩ := ih y (fun b hb => hcut b (by simp [subLoops, hb])) R _ _ _ h
          exact ⟨ex, s1, h1, fun S a w hnb hI => wp_cond_false (hev hI) (h2 S a w hnb hI)⟩
        · obtain ⟨ex, s1, h1, h2⟩ := ih x (fun b hb => hcut b (by simp [subLoops, hb])) R _ _ _ h
          exact ⟨ex, s1, h1, fun S a w hnb hI => wp_cond_true (hev hI) (h2 S a w hnb hI)⟩
      · cases h
    | block id b =>
      obtain ⟨ex, s1, h1, h2⟩ := ih b (fun x hx => hcut x (by simpa [subLoops] using hx)) R _ _ _ h
      cases ex with
      | normal =>
        refine ⟨.normal, s1, h1, fun S a w hnb hI => wp_block (wp_mono (h2 S a w hnb hI) ?_)⟩
        rintro e a' w' ⟨rfl, hI'⟩
        exact ⟨rfl, hI'⟩
      | ret v bs =>
        refine ⟨.ret v bs, s1, h1, fun S a w hnb hI => wp_block (wp_mono (h2 S a w hnb hI) ?_)⟩
        rintro e a' w' ⟨rfl, hI'⟩
        exact ⟨rfl, hI'⟩
      | goto l =>
        refine ⟨.goto l, s1, h1, fun S a w hnb hI => wp_block (wp_mono (h2 S a w hnb hI) ?_)⟩
        rintro e a' w' ⟨rfl, hI'⟩
        exact ⟨rfl, hI'⟩
      | exit i =>
        dsimp only at h1
        cases hb : Nat.beq i id <;> rw [hb] at h1 <;> simp only [cond_true, cond_false] at h1
        · refine ⟨.exit i, s1, h1, fun S a w hnb hI => wp_block (wp_mono (h2 S a w hnb hI) ?_)⟩
          rintro e a' w' ⟨rfl, hI'⟩
          simp only [Exit.inBlock]
          rw [if_neg (fun e => by subst e; simp at hb)]
          exact ⟨rfl, hI'⟩
        · refine ⟨.normal, s1, h1, fun S a w hnb hI => wp_block (wp_mono (h2 S a w hnb hI) ?_)⟩
          rintro e a' w' ⟨rfl, hI'⟩
          simp only [Exit.inBlock]
          rw [if_pos (beq_eq hb)]
          exact ⟨rfl, hI'⟩
    | loop b =>
      dsimp only at h
      split at h
      · cases h
      · rename_i hd hhd
        split at h
        · cases h
        · rename_i vs H hn
          have key : ∃ ex s', k ex s' = some r ∧ SpOK P fn E (.loop b) ⟨mkT hd.keep vs, H⟩ ex s' := by
            split at h
            · rename_i e he
              exact hcut (.loop b) (by simp [subLoops]) e hd he hhd R vs H k r h
            · exact loop_ok (ih b (fun x hx => hcut x (by simp [subLoops, hx]))) h
          obtain ⟨ex, s', g1, g2⟩ := key
          exact ⟨ex, s', g1, fun S a w hnb hI => g2 S a w hnb (norm_ok hn hI)⟩
    | scope b =>
      dsimp only at h
      cases hj : isJump b 0 <;> rw [hj] at h <;> simp only [cond_true, cond_false] at h
      · obtain ⟨ex, s1, h1, h2⟩ := ih b (fun x hx => hcut x (by simp [subLoops, hx])) R _ _ _ h
        cases ex with
        | goto l => cases h1
        | normal =>
          refine ⟨.normal, s1, h1, fun S a w hnb hI => wp_scope_straight (wp_mono (h2 S a w hnb hI) ?_)⟩
          rintro e a' w' ⟨rfl, hI'⟩
          exact ⟨rfl, hI'⟩
        | ret v bs =>
          refine ⟨.ret v bs, s1, h1, fun S a w hnb hI => wp_scope_straight (wp_mono (h2 S a w hnb hI) ?_)⟩
          rintro e a' w' ⟨rfl, hI'⟩
          exact ⟨rfl, hI'⟩
        | exit i =>
          refine ⟨.exit i, s1, h1, fun S a w hnb hI => wp_scope_straight (wp_mono (h2 S a w hnb hI) ?_)⟩
          rintro e a' w' ⟨rfl, hI'⟩
          exact ⟨rfl, hI'⟩
      · split at h
        · cases h
        · rename_i hd hhd
          split at h
          · cases h
          · rename_i vs H hn
            have key : ∃ ex s', k ex s' = some r ∧ SpOK P fn E (.scope b) ⟨mkT hd.keep vs, H⟩ ex s' := by
              split at h
              · rename_i e he
                exact hcut (.scope b) (by simp [subLoops]) e hd he hhd R vs H k r h
              · obtain ⟨ex, s', g1, g2⟩ := evScope_ok (f := fun c s k => evCode E d c s k) (body := b) (fun c hc => ih c (fun x hx => hcut x (by simp [subLoops, hc x hx]))) E.N b vs H k r (fun _ hx => hx) h
                exact ⟨ex, s', g1, fun S a w hnb hI => wp_scope_passes E.N (g2 S a w hnb hI)⟩
            obtain ⟨ex, s', g1, g2⟩ := key
            exact ⟨ex, s', g1, fun S a w hnb hI => g2 S a w hnb (norm_ok hn hI)⟩

/-- A function's body as the evaluator goes through it: its law. -/
theorem evFun_ok (hE : EnvOK P E) (hmix : P.follows .mixedOrders = true) {f : Nat} {body : Code} (hf : P.funcs[f]? = some fn) (hb : fn.body = some body) (hname : (fn.name == "runtime.NumGoroutine") = false) (hres : E.res = fn.results.toList) (hnt : E.ntmps = fn.ntmps)
    {args : List V} {bs : List Blk} (hnb : E.nb = bs.length) (hargs : args.length ≤ fn.ntmps) (hcut : ∀ b ∈ subLoops body, CutOK P fn E b) {R : Type} {k : V → List Blk → Option R} {r : R} (h : evFun E body args bs k = some r) :
    ∃ v bs', k v bs' = some r ∧ FnSpec P f args bs v bs' := by
  unfold evFun at h
  obtain ⟨ex, s', h1, h2⟩ := evCode_ok hE hmix hres depth body hcut R _ _ _ h
  have fin1 : ∃ v bs', k v bs' = some r ∧ ∀ S a w, E.nb = S.bs.length → ∀ x, Is P fn E S ex s' x a w → (x = .ret ∨ x = .normal) ∧ RetOK P fn S v bs' a w := by
    cases ex with
    | normal =>
      dsimp only at h1
      split at h1
      · rename_i v bs' hf
        exact ⟨v, bs', h1, fun S a w hn x hx => ⟨.inr hx.1, fin_ok hE.ty hres hn hf hx.2⟩⟩
      · cases h1
    | ret v bs' => exact ⟨v, bs', h1, fun S a w hn x hx => ⟨.inl hx.1, hx.2⟩⟩
    | exit i => cases h1
    | goto l => cases h1
  obtain ⟨v, bs', g1, g2⟩ := fin1
  refine ⟨v, bs', g1, ⟨fn, hf, by rw [hb]; rfl, hname⟩, ?_⟩
  intro F ρ w args' hH hn hr
  refine calls_of_wp hf hb ?_
  have hlen := hr.length
  have hI : Inv E ⟨F, ρ, bs, w⟩ ⟨mkArgs 0 args, bs⟩ { tmps := args'.toArray ++ Array.replicate (fn.ntmps - args'.toArray.size) undef, defers := [] } w := by
    refine ⟨ρ, ⟨hH, fun t => ?_, ?_, rfl⟩, hn, fun _ _ => rfl, by dsimp only; omega, Ext.refl _ _⟩
    · have := look_mkArgs args args' 0 t ρ _ w undef hr
      have e : (if 0 ≤ t ∧ t < 0 + args'.length then args'.getD (t - 0) undef else undef) = Act.eval { tmps := args'.toArray ++ Array.replicate (fn.ntmps - args'.toArray.size) undef, defers := [] } (.tmp t) := by
        simp only [Act.eval, Array.getD_eq_getD_getElem?, Array.getElem?_append, List.size_toArray, List.getElem?_toArray, Array.getElem?_replicate]
        by_cases ht : t < args'.length
        · rw [if_pos (by omega), if_pos ht]; simp [List.getD_eq_getElem?_getD]
        · rw [if_neg (by omega), if_neg ht]; split <;> rfl
      rw [← e]; exact this
    · simp only [Array.size_append, List.size_toArray, Array.size_replicate, hnt]; omega
  refine wp_mono (h2 ⟨F, ρ, bs, w⟩ _ w hnb hI) ?_
  intro x a' w' hx
  obtain ⟨hx', hd, u, hu, hp⟩ := g2 ⟨F, ρ, bs, w⟩ a' w' hnb x hx
  rcases hx' with rfl | rfl
  · exact ⟨hd, u, hu, u, rfl, hp⟩
  · exact ⟨hd, u, hu, u, rfl, hp⟩

/-- Arguments told in another form. -/
theorem FnSpec.of_freeze {f : Nat} {ss : List Sh} {args args2 : List V} {v : V} {bs' : List Blk} (hz : freezeL 0 (fun _ => .dead) ss args = some args2) (h : FnSpec P f args2 [] v bs') : FnSpec P f args [] v bs' := by
  refine ⟨h.callable, fun F ρ w args' hH hn hr => h.calls F ρ w args' hH hn ?_⟩
  have hd : blkAt [] = fun _ => Blk.dead := by funext j; rfl
  rw [hd] at hH hr ⊢
  exact freezeL_ok hH (fun i hi => by omega) (fun b hb => hb) (fun b hb => by obtain ⟨_, _, _, _, hl⟩ := hb; exact hl.elim) ss args args2 args' hz hr

end
end Go.Proofs.Ytlofhdoefjmabaa.Ev

/-
  The evaluator's theorems in the form in which a function's printed text calls them. (A text of ours; no condition.)
-/
namespace Go.Proofs.Ytlofhdoefjmabaa.Ev
set_option linter.unusedVariables false

theorem tyok_of {P : Program} {t : Nat} {ti : TI} (hi : (P.info? t).isSome = true) (hs : ((P.info? t).getD default).size = ti.size) (hb : ((P.info? t).getD default).bytes = ti.bytes) (hz : ((P.info? t).getD default).zero.isSome = true)
    (hc : (((P.info? t).getD default).zero.getD undef).cells.toList = ti.zero) (hl : ti.zero.length = ti.size) (ho : (ti.isAgg || Nat.beq ti.size 1) = true) (hk : tkOK P t ti.tk) (he : (!ti.isAgg || (!P.stoodInHeld t && !P.eqGuardType P.depth t)) = true) : TyOK1 P t ti := by
  cases h : P.info? t with
  | none => rw [h] at hi; cases hi
  | some i =>
    rw [h] at hs hb hz hc
    simp only [Option.getD_some] at hs hb hz hc
    cases h2 : i.zero with
    | none => rw [h2] at hz; cases hz
    | some z =>
      rw [h2] at hc
      simp only [Option.getD_some] at hc
      refine ⟨⟨i, h, hs, hb, z, h2, hc⟩, hl, fun ha => ?_, hk, fun ha => ?_⟩
      · rw [ha] at ho; exact beq_eq ho
      · rw [ha] at he
        simpa using he

theorem tk_struct {P : Program} {t : Nat} {fields : Array Field} {fs : List (Nat × Nat)} (h1 : P.underlying t = some (.struct fields)) (h2 : fields.toList.map (fun f => (f.type, f.offset)) = fs) (h3 : fields.toList.all (fun f => !(f.name == "_")) = true) : tkOK P t (.struct fs) :=
  ⟨fields, h1, h2, fun f hf => by
    rw [List.all_eq_true] at h3
    have := h3 f hf
    simpa using this⟩

def mapZero (P : Program) (e : Nat) : Bool := match P.info? e with
  | some i => (match i.zero with | some z => plainV z | none => false)
  | none => false
theorem tk_map {P : Program} {t k e : Nat} (h1 : P.underlying t = some (.map k e)) (h2 : mapZero P e = true) : tkOK P t (.map k e) := by
  unfold mapZero at h2
  split at h2
  · rename_i i hi
    split at h2
    · rename_i z hz
      exact ⟨h1, i, z, hi, hz, h2⟩
    · cases h2
  · cases h2

theorem TyOK.nil {P : Program} : TyOK P (lookN []) := fun _ _ h => by cases h
theorem TyOK.cons {P : Program} {t : Nat} {ti : TI} {l : List (Nat × TI)} (h : TyOK1 P t ti) (r : TyOK P (lookN l)) : TyOK P (lookN ((t, ti) :: l)) := by
  intro t' ti' ht
  simp only [lookN] at ht
  cases hb : Nat.beq t t' <;> rw [hb] at ht <;> simp only [cond_true, cond_false] at ht
  · exact r t' ti' ht
  · have := beq_eq hb; subst this
    simp only [Option.some.injEq] at ht; subst ht; exact h

def TabOK1 (P : Program) (f : Nat) (e : Entry) : Prop := ∀ args bs a enc, e.dec args bs = some (some a, enc) → FnSpec P f args bs (enc a).pick.1 (enc a).pick.2
theorem TabOK.nil {P : Program} : TabOK P (lookN []) := fun _ _ h => by cases h
theorem TabOK.cons {P : Program} {f : Nat} {e : Entry} {l : List (Nat × Entry)} (h : TabOK1 P f e) (r : TabOK P (lookN l)) : TabOK P (lookN ((f, e) :: l)) := by
  intro f' e' ht
  simp only [lookN] at ht
  cases hb : Nat.beq f f' <;> rw [hb] at ht <;> simp only [cond_true, cond_false] at ht
  · exact r f' e' ht
  · have := beq_eq hb; subst this
    simp only [Option.some.injEq] at ht; subst ht; exact h

def AllCut (P : Program) (fn : Func) (E : Env) (l : List Code) : Prop := ∀ b ∈ l, CutOK P fn E b
theorem AllCut.nil {P : Program} {fn : Func} {E : Env} : AllCut P fn E [] := fun _ h => by cases h
theorem AllCut.cons {P : Program} {fn : Func} {E : Env} {c : Code} {l : List Code} (h : CutOK P fn E c) (r : AllCut P fn E l) : AllCut P fn E (c :: l) := fun b hb => by
  rcases List.mem_cons.mp hb with rfl | hb
  · exact h
  · exact r b hb
theorem AllCut.of {P : Program} {fn : Func} {E : Env} {l l' : List Code} (he : l' = l) (h : AllCut P fn E l) : AllCut P fn E l' := he ▸ h
theorem cut_scope {P : Program} {fn : Func} {E : Env} {b : Code} (h : (E.cut (1000000 + loopKey b)).isNone = true) : CutOK P fn E (.scope b) := fun e hd he => by rw [he] at h; cases h
theorem cut_loop {P : Program} {fn : Func} {E : Env} {b : Code} (h : (E.cut (loopKey b)).isNone = true) : CutOK P fn E (.loop b) := fun e hd he => by rw [he] at h; cases h

/- A whole row taken for a part of one. -/
def asSl (h : Nat → Blk) : V → V
  | .sw id s => (match h id with
    | .ints _ l => .sl id s 0 (cnt s l.length)
    | _ => .sw id s)
  | v => v
def asSlL (h : Nat → Blk) : List Bool → List V → List V
  | true :: bs, v :: r => asSl h v :: asSlL h bs r
  | false :: bs, v :: r => v :: asSlL h bs r
  | _, vs => vs

theorem asSl_ok {F : Nat → Prop} {ρ : Rho} {h : Nat → Blk} {w : World} (hh : HeapRel F ρ h w) {v : V} {u : Value} (hr : Rel ρ (av F (liveM ρ h)) w v u) : Rel ρ (av F (liveM ρ h)) w (asSl h v) u := by
  unfold asSl
  split
  · rename_i id s
    split
    · rename_i k l hid
      obtain ⟨h0, ⟨b, n, C, cap, c, h1, h2, h3, h4, h5, ho, hsz, hold⟩ | ⟨h1, h2, hk⟩⟩ := sw_cells hh hr (by rw [hid]; trivial) (by rw [hid]; trivial)
      · rw [hid] at hold
        obtain ⟨e1, e2, e3⟩ := hold
        simp only [Rel]
        have hn : n / s * s = n := Nat.div_mul_cancel (Nat.dvd_of_mod_eq_zero h2)
        refine ⟨h0, .inl ⟨b, n, C, cap, h1, ?_, ?_, by omega, ?_⟩⟩
        · rw [cnt_eq, e1]; omega
        · rw [cnt_eq, e1]; exact h3
        · rw [cnt_eq, e1]; exact h5
      · rw [hid] at hk
        rcases hk with ⟨k2, hk⟩ | hk <;> cases hk
        simp only [Rel]
        exact ⟨h0, .inr ⟨by rw [cnt_eq]; simp, none, h2⟩⟩
    · exact hr
  · exact hr

theorem asSlL_ok {F : Nat → Prop} {ρ : Rho} {h : Nat → Blk} {w : World} (hh : HeapRel F ρ h w) : ∀ (bs : List Bool) (vs : List V) (us : List Value), RelL ρ (av F (liveM ρ h)) w vs us → RelL ρ (av F (liveM ρ h)) w (asSlL h bs vs) us
  | true :: bs, v :: r, [], hr => by simp only [RelL] at hr
  | true :: bs, v :: r, u :: us, hr => by
    simp only [RelL, asSlL] at hr ⊢
    exact ⟨asSl_ok hh hr.1, asSlL_ok hh bs r us hr.2⟩
  | false :: bs, v :: r, [], hr => by simp only [RelL] at hr
  | false :: bs, v :: r, u :: us, hr => by
    simp only [RelL, asSlL] at hr ⊢
    exact ⟨hr.1, asSlL_ok hh bs r us hr.2⟩
  | [], vs, us, hr => by simpa only [asSlL] using hr
  | _ :: _, [], us, hr => by simpa only [asSlL] using hr

theorem FnSpec.of_asSl {P : Program} {f : Nat} {fl : List Bool} {args : List V} {bs : List Blk} {v : V} {bs' : List Blk} (h : FnSpec P f (asSlL (blkAt bs) fl args) bs v bs') : FnSpec P f args bs v bs' :=
  ⟨h.callable, fun F ρ w args' hH hn hr => h.calls F ρ w args' hH hn (asSlL_ok hH fl args args' hr)⟩

/-- What was handed in is looked at no more. -/
theorem FnSpec.kill {P : Program} {f : Nat} {args : List V} {bs : List Blk} {v : V} {bs' : List Blk} (h : FnSpec P f args bs v bs') : FnSpec P f args bs v (List.replicate bs'.length .dead) := by
  refine ⟨h.callable, fun F ρ w args' hH hn hr => Calls.mono (h.calls F ρ w args' hH hn hr) ?_⟩
  rintro e w' ⟨u, he, ρ', h1, h2, h3, h4, h5⟩
  have hd : ∀ id, ¬ (blkAt (List.replicate bs'.length Blk.dead) id).live := fun id hl => by
    rw [blkAt_getD, List.getD_eq_getElem?_getD, List.getElem?_replicate] at hl
    split at hl <;> exact hl
  have hM : ∀ b, liveM ρ' (blkAt (List.replicate bs'.length Blk.dead)) b → liveM ρ' (blkAt bs') b := by
    rintro b ⟨id, n, C, _, hl⟩
    exact absurd hl (hd id)
  refine ⟨u, he, ρ', h1, fun id hid => h2 id (by simpa using hid), ⟨h3.wf, fun id hl => absurd hl (hd id), fun i j b n C n' C' hi => absurd hi (hd i), h3.low, fun b hb => h3.out b (hM b hb)⟩, Rel.avoid (fun b hb => hb.imp id (hM b)) _ _ h4, ⟨h5.size, h5.same, fun b hb => h5.sub b (hM b hb), h5.keeps⟩⟩

/-- A scope with jumps, gone through. -/
theorem scope_ok {P : Program} {fn : Func} {E : Env} (hE : EnvOK P E) (hmix : P.follows .mixedOrders = true) (hres : E.res = fn.results.toList) {d : Nat} {b : Code} {hd : Hint} (hcut : AllCut P fn E (subLoops b)) {R : Type} {n : Nat} {vs : List V} {H : List Blk} {k : Ex → St → Option R} {r : R}
    (h : evScope E.nb hd (fun c s k => evCode E d c s k) b n b vs H k = some r) : ∃ ex s', k ex s' = some r ∧ SpOK P fn E (.scope b) ⟨mkT hd.keep vs, H⟩ ex s' := by
  obtain ⟨ex, s', g1, g2⟩ := evScope_ok (f := fun c s k => evCode E d c s k) (body := b) (fun c hc => evCode_ok hE hmix hres d c (fun x hx => hcut x (hc x hx))) n b vs H k r (fun _ hx => hx) h
  exact ⟨ex, s', g1, fun S a w hnb hI => wp_scope_passes n (g2 S a w hnb hI)⟩

end Go.Proofs.Ytlofhdoefjmabaa.Ev

/-
  From a function's law to a row's call: arguments as they are read; a world that is only added to. (A text of ours; no condition.)
-/
namespace Go.Proofs.Ytlofhdoefjmabaa.Ev
open Go.RowKit Go.ChangeShapes Go.WideShapes Go.ChangeAt
set_option linter.unusedVariables false

/-- A call with nothing of its own handed in: what it tells, and nothing old is changed. -/
theorem FnSpec.calls0 {P : Program} {f : Nat} {args : List V} {v : V} (h : FnSpec P f args [] v []) {w : World} {args' : List Value} (hr : RelL (fun _ => none) (fun _ => False) w args args') :
    Calls P f args'.toArray w fun e w' => ∃ u, e = .returned u ∧ Rel (fun _ => none) (fun _ => False) w' v u ∧ Below w.heap.size w w' := by
  have hdd : ∀ i, ¬ (blkAt [] i).live := fun i h => h
  have hno : ∀ (ρ : Rho) b, ¬ liveM ρ (blkAt []) b := fun ρ b hb => by obtain ⟨_, _, _, _, hl⟩ := hb; exact hdd _ hl
  have hH : HeapRel (fun _ => False) (fun _ => none) (blkAt []) w :=
    { wf := fun id p hp => by cases hp
      rel := fun id hl => absurd hl (hdd id)
      inj := fun i j b n C n' C' hi => absurd hi (hdd i)
      low := fun b hb => False.elim hb
      out := fun b hb => (hno _ b hb).elim }
  refine Calls.mono (h.calls (fun _ => False) (fun _ => none) w args' hH (fun _ _ => rfl) (RelL.avoid (fun b hb => hb.elim id (hno _ b)) _ _ hr)) ?_
  rintro e w' ⟨u, he, ρ', h1, h2, h3, h4, h5⟩
  have hρ : ρ' = fun _ => none := by funext i; exact h2 i (Nat.zero_le _)
  subst hρ
  exact ⟨u, he, Rel.avoid (fun b hb => hb.elim) _ _ h4, ⟨h5.keeps.os, h5.keeps.tape, h5.keeps.output, h5.size, fun k hk => h5.same k hk (hno _ k)⟩⟩

section
variable {H : Type} {enc : TypeId × Value → H} {P : Program} {w : World} {base : Nat} {sp : Nat → Bool} {held : Bool}

/-- A struct of three whole numbers, read. -/
theorem read3 {t : TypeId} {f0 f1 f2 : Field} {k0 k1 k2 : IntKind} (ht : P.underlying t = some (.struct #[f0, f1, f2])) (hc : P.cellsOf t = 3)
    (o0 : f0.offset = 0) (o1 : f1.offset = 1) (o2 : f2.offset = 2) (c0 : P.cellsOf f0.type = 1) (c1 : P.cellsOf f1.type = 1) (c2 : P.cellsOf f2.type = 1)
    (u0 : P.underlying f0.type = some (.int k0)) (u1 : P.underlying f1.type = some (.int k1)) (u2 : P.underlying f2.type = some (.int k2))
    {base' : Nat} {v : Value} {d : DataW H} {ps : List MemPlace} (hok : Value.okWide P w .any base' t v) (hd : DataW.Trod enc P w base sp held t v d ps) :
    ∃ a b c, v = .agg #[.int k0 a, .int k1 b, .int k2 c] ∧ (Lit.int k0 a).wf = true ∧ (Lit.int k1 b).wf = true ∧ (Lit.int k2 c).wf = true := by
  simp only [Value.okWide, ht] at hok
  obtain ⟨cs, rfl, hsz, _⟩ := hok
  obtain ⟨fuel, hy⟩ := hd
  obtain ⟨ys, m, _, _, hcl, hl, hf⟩ := DataW.trod_struct ht hy
  have hy0 := hf 0 f0 rfl
  have hy1 := hf 1 f1 rfl
  have hy2 := hf 2 f2 rfl
  have hl3 : ys.length = 3 := by simpa using hl
  rw [o0, c0] at hy0
  rw [o1, c1] at hy1
  rw [o2, c2] at hy2
  have hcl' : cs.toList.length = 3 := by rw [← hc]; exact hcl
  obtain ⟨l⟩ := cs
  match l, hcl', ys, hl3 with
  | [x0, x1, x2], _, [y0, y1, y2], _ =>
    simp [Value.cells] at hy0 hy1 hy2
    obtain ⟨a, e0, _, w0⟩ := DataW.trod_int u0 hy0
    obtain ⟨b, e1, _, w1⟩ := DataW.trod_int u1 hy1
    obtain ⟨c, e2, _, w2⟩ := DataW.trod_int u2 hy2
    simp at e0 e1 e2
    subst e0 e1 e2
    exact ⟨a, b, c, rfl, w0, w1, w2⟩

/-- A struct of four whole numbers, read. -/
theorem read4 {t : TypeId} {f0 f1 f2 f3 : Field} {k0 k1 k2 k3 : IntKind} (ht : P.underlying t = some (.struct #[f0, f1, f2, f3])) (hc : P.cellsOf t = 4)
    (o0 : f0.offset = 0) (o1 : f1.offset = 1) (o2 : f2.offset = 2) (o3 : f3.offset = 3) (c0 : P.cellsOf f0.type = 1) (c1 : P.cellsOf f1.type = 1) (c2 : P.cellsOf f2.type = 1) (c3 : P.cellsOf f3.type = 1)
    (u0 : P.underlying f0.type = some (.int k0)) (u1 : P.underlying f1.type = some (.int k1)) (u2 : P.underlying f2.type = some (.int k2)) (u3 : P.underlying f3.type = some (.int k3))
    {base' : Nat} {v : Value} {d : DataW H} {ps : List MemPlace} (hok : Value.okWide P w .any base' t v) (hd : DataW.Trod enc P w base sp held t v d ps) :
    ∃ a b c e, v = .agg #[.int k0 a, .int k1 b, .int k2 c, .int k3 e] ∧ (Lit.int k0 a).wf = true ∧ (Lit.int k1 b).wf = true ∧ (Lit.int k2 c).wf = true ∧ (Lit.int k3 e).wf = true := by
  simp only [Value.okWide, ht] at hok
  obtain ⟨cs, rfl, hsz, _⟩ := hok
  obtain ⟨fuel, hy⟩ := hd
  obtain ⟨ys, m, _, _, hcl, hl, hf⟩ := DataW.trod_struct ht hy
  have hy0 := hf 0 f0 rfl
  have hy1 := hf 1 f1 rfl
  have hy2 := hf 2 f2 rfl
  have hy3 := hf 3 f3 rfl
  have hl4 : ys.length = 4 := by simpa using hl
  rw [o0, c0] at hy0
  rw [o1, c1] at hy1
  rw [o2, c2] at hy2
  rw [o3, c3] at hy3
  have hcl' : cs.toList.length = 4 := by rw [← hc]; exact hcl
  obtain ⟨l⟩ := cs
  match l, hcl', ys, hl4 with
  | [x0, x1, x2, x3], _, [y0, y1, y2, y3], _ =>
    simp [Value.cells] at hy0 hy1 hy2 hy3
    obtain ⟨a, e0, _, w0⟩ := DataW.trod_int u0 hy0
    obtain ⟨b, e1, _, w1⟩ := DataW.trod_int u1 hy1
    obtain ⟨c, e2, _, w2⟩ := DataW.trod_int u2 hy2
    obtain ⟨d', e3, _, w3⟩ := DataW.trod_int u3 hy3
    simp at e0 e1 e2 e3
    subst e0 e1 e2 e3
    exact ⟨a, b, c, d', rfl, w0, w1, w2, w3⟩

theorem slice_at {t e : TypeId} (ht : P.underlying t = some (.slice e)) {base' : Nat} {a : Addr} {len cap : Nat} (hok : Value.okWide P w .any base' t (.slice (some a) len cap)) : a.spot = none ∧ a.block < w.heap.size := by
  simp only [Value.okWide, ht, Cell.okWide, Cell.ok] at hok
  obtain ⟨_, _, _, h1, row, cells, h2, _⟩ := hok
  refine ⟨h1, ?_⟩
  unfold World.shape? at h2
  split at h2
  · rename_i c elem fr hc
    exact (Array.getElem?_eq_some_iff.mp hc).1
  · cases h2

theorem at_add {b o n : Nat} : (⟨b, o, none⟩ : Addr).add n = ⟨b, o + n, none⟩ := add_plain b o n

/-- A slice of whole numbers, read. -/
theorem read_ints {t e : TypeId} {k : IntKind} (ht : P.underlying t = some (.slice e)) (he : P.underlying e = some (.int k)) (hc : P.cellsOf e = 1)
    {base' : Nat} {v : Value} {d : DataW H} {ps : List MemPlace} (hok : Value.okWide P w .any base' t v) {fuel : Nat} (hd : DataW.trod enc P w base sp held fuel t [v] = some (d, ps)) :
    ∃ l : List Int, Rel (fun _ => none) (fun _ => False) w (.il k 1 l) v ∧ ∀ x ∈ l, (Lit.int k x).wf = true := by
  rcases open_ints ht he hc hd with ⟨hcs, _⟩ | ⟨a, len, cap, zs, hcs, _, hl, _, hz, _, hcell, hwf⟩
  · obtain rfl : v = .slice none 0 0 := by simpa using hcs
    exact ⟨[], by simp only [Rel]; exact ⟨Nat.one_pos, Nat.mod_one _, .inl ⟨trivial, none, rfl⟩⟩, fun x hx => by cases hx⟩
  · obtain rfl : v = .slice (some a) len cap := by simpa using hcs
    obtain ⟨hs, hb⟩ := slice_at ht hok
    obtain ⟨b, o, s⟩ := a
    simp only at hs hb; subst hs
    have hlz : len ≤ zs.length := by rw [hz]; split <;> omega
    have hlen : (zs.take len).length = len := by rw [List.length_take]; omega
    refine ⟨zs.take len, ?_, fun x hx => hwf x (List.mem_of_mem_take hx)⟩
    simp only [Rel]
    refine ⟨Nat.one_pos, Nat.mod_one _, .inr ⟨b, o, cap, by rw [hlen, Nat.div_one], by rw [hlen, Nat.div_one]; exact hl, hb, fun h => h.elim, fun j hj => ?_⟩⟩
    rw [hlen] at hj
    have := hcell j (by omega)
    rw [at_add] at this
    rw [this, List.getD_eq_getElem?_getD, List.getD_eq_getElem?_getD, List.getElem?_take, if_pos hj]

/-- A slice of structs of a whole number and a bool, read. -/
theorem read_walks {t e : TypeId} {f0 f1 : Field} {k : IntKind} (ht : P.underlying t = some (.slice e)) (he : P.underlying e = some (.struct #[f0, f1])) (ce : P.cellsOf e = 2)
    (o0 : f0.offset = 0) (o1 : f1.offset = 1) (c0 : P.cellsOf f0.type = 1) (c1 : P.cellsOf f1.type = 1) (u0 : P.underlying f0.type = some (.int k)) (u1 : P.underlying f1.type = some .bool)
    {base' : Nat} {v : Value} {d : DataW H} {ps : List MemPlace} (hok : Value.okWide P w .any base' t v) (hd : DataW.Trod enc P w base sp held t v d ps) :
    ∃ (xs : List Int) (ys : List Bool), xs.length = ys.length ∧ Rel (fun _ => none) (fun _ => False) w (.iv xs.length [.ints k xs, .bools ys]) v ∧ ∀ x ∈ xs, (Lit.int k x).wf = true := by
  obtain ⟨fuel, hd⟩ := hd
  have hv : v.cells.toList = [v] := by
    simp only [Value.okWide, ht, Cell.okWide] at hok
    cases v <;> first | rfl | (simp [Cell.ok, ht] at hok)
  rw [hv] at hd
  rcases Go.Deep.open_slice_pairs ht he ce o0 o1 c0 c1 hd with ⟨hcs, _⟩ | ⟨a, len, cap, m, n, V0, V1, D0, D1, P0, P1, hcs, _, hl, _, hm, _, hall⟩
  · obtain rfl : v = .slice none 0 0 := by simpa using hcs
    exact ⟨[], [], rfl, by simp only [Rel]; exact ⟨Nat.succ_pos _, .inl ⟨rfl, none, rfl⟩⟩, fun x hx => by cases hx⟩
  · obtain rfl : v = .slice (some a) len cap := by simpa using hcs
    obtain ⟨hs, hb⟩ := slice_at ht hok
    obtain ⟨b, o, s⟩ := a
    simp only at hs hb; subst hs
    have hlm : len ≤ m := by rw [hm]; split <;> omega
    have h0 : ∀ i, i < len → ∃ x, V0 i = .int k x ∧ (Lit.int k x).wf = true := fun i hi => by
      obtain ⟨_, _, h3, _⟩ := hall i (by omega)
      obtain ⟨x, e1, _, w1⟩ := DataW.trod_int u0 h3
      simp at e1
      exact ⟨x, e1, w1⟩
    have h1 : ∀ i, i < len → ∃ y, V1 i = .bool y := fun i hi => by
      obtain ⟨_, _, _, h4⟩ := hall i (by omega)
      obtain ⟨y, e1, _⟩ := DataW.trod_bool u1 h4
      simp at e1
      exact ⟨y, e1⟩
    let X : Nat → Int := fun i => match V0 i with | .int _ x => x | _ => 0
    let Y : Nat → Bool := fun i => match V1 i with | .bool y => y | _ => false
    refine ⟨(List.range len).map X, (List.range len).map Y, by simp, ?_, fun x hx => ?_⟩
    · simp only [Rel, List.length_map, List.length_range]
      refine ⟨Nat.succ_pos _, .inr ⟨b, o, cap, rfl, hl, hb, fun h => h.elim, fun i hi j hj => ?_⟩⟩
      obtain ⟨g0, g1, _⟩ := hall i (by omega)
      obtain ⟨x, ex, _⟩ := h0 i hi
      obtain ⟨y, ey⟩ := h1 i hi
      have hX : X i = x := by show (match V0 i with | .int _ x => x | _ => 0) = x; rw [ex]
      have hY : Y i = y := by show (match V1 i with | .bool y => y | _ => false) = y; rw [ey]
      rw [at_add] at g0 g1
      match j, hj with
      | 0, _ =>
        simp only [List.length_cons, List.length_nil, Nat.add_zero, colsAt, List.getElem?_cons_zero, colC]
        rw [g0, ex, List.getD_eq_getElem?_getD, List.getElem?_map, List.getElem?_range hi]; simp [hX]
      | 1, _ =>
        simp only [List.length_cons, List.length_nil, Nat.add_assoc, colsAt, List.getElem?_cons_succ, List.getElem?_cons_zero, colC]
        rw [g1, ey, List.getD_eq_getElem?_getD, List.getElem?_map, List.getElem?_range hi]; simp [hY]
    · simp only [List.mem_map, List.mem_range] at hx
      obtain ⟨i, hi, rfl⟩ := hx
      obtain ⟨x, ex, hw⟩ := h0 i hi
      have hX : X i = x := by show (match V0 i with | .int _ x => x | _ => 0) = x; rw [ex]
      rw [hX]; exact hw

/-- A struct of a bool and a slice of whole numbers, read. -/
theorem read_big {t e : TypeId} {f0 f1 : Field} {k : IntKind} (ht : P.underlying t = some (.struct #[f0, f1])) (hc : P.cellsOf t = 2)
    (o0 : f0.offset = 0) (o1 : f1.offset = 1) (c0 : P.cellsOf f0.type = 1) (c1 : P.cellsOf f1.type = 1) (u0 : P.underlying f0.type = some .bool) (u1 : P.underlying f1.type = some (.slice e)) (ue : P.underlying e = some (.int k)) (ce : P.cellsOf e = 1)
    (ct : P.cellTypes P.depth t = some [f0.type, f1.type])
    {base' : Nat} {v : Value} {d : DataW H} {ps : List MemPlace} (hok : Value.okWide P w .any base' t v) (hd : DataW.Trod enc P w base sp held t v d ps) :
    ∃ (b : Bool) (s : Value) (l : List Int), v = .agg #[.bool b, s] ∧ Rel (fun _ => none) (fun _ => False) w (.il k 1 l) s ∧ ∀ x ∈ l, (Lit.int k x).wf = true := by
  simp only [Value.okWide, ht] at hok
  obtain ⟨cs, rfl, hsz, ts, hts, _, hrow⟩ := hok
  rw [ct] at hts
  obtain rfl := Option.some.inj hts
  obtain ⟨fuel, hy⟩ := hd
  obtain ⟨ys, m, _, _, hcl, hl, hf⟩ := DataW.trod_struct ht hy
  have hy0 := hf 0 f0 rfl
  have hy1 := hf 1 f1 rfl
  have hl2 : ys.length = 2 := by simpa using hl
  rw [o0, c0] at hy0
  rw [o1, c1] at hy1
  have hcl' : cs.toList.length = 2 := by rw [← hc]; exact hcl
  obtain ⟨l⟩ := cs
  match l, hcl', ys, hl2 with
  | [x0, x1], _, [y0, y1], _ =>
    simp [Value.cells] at hy0 hy1
    obtain ⟨b, e0, _⟩ := DataW.trod_bool u0 hy0
    simp at e0
    subst e0
    obtain ⟨u, hu, hok1⟩ := hrow 1 x1 rfl
    simp at hu
    subst hu
    obtain ⟨zs, h1, h2⟩ := read_ints (base' := base') (v := x1) (d := y1.1) (ps := y1.2) u1 ue ce (by simp only [Value.okWide, u1]; exact hok1) hy1
    exact ⟨b, x1, zs, rfl, h1, h2⟩

theorem rel_big {k : IntKind} {l : List Int} {b : Bool} {s : Value} {ρ : Rho} {M : Nat → Prop} (h : Rel ρ M w (.il k 1 l) s) : Rel ρ M w (.agg [.c (.bool b), .il k 1 l]) (.agg #[.bool b, s]) := by
  rw [Rel]
  refine ⟨#[.bool b, s], rfl, ?_⟩
  show RelL ρ M w [.c (.bool b), .il k 1 l] [.bool b, s]
  rw [RelL, RelL]
  exact ⟨by rw [Rel], h, by simp only [RelL]⟩

theorem Trod.lt {t : TypeId} {v : Value} {d : DataW H} {ps : List MemPlace} (h : DataW.Trod enc P w base sp held t v d ps) : ∀ x ∈ ps, x.block < w.heap.size := by
  obtain ⟨m, hm⟩ := h
  exact DataW.trod_lt m _ _ _ hm

end
end Go.Proofs.Ytlofhdoefjmabaa.Ev
