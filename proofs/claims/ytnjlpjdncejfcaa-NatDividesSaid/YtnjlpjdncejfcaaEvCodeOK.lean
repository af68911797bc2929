/-
  The evaluator's code is sound. (A text of ours; no condition.)
-/
import Derived.Test.YtnjlpjdncejfcaaEvFin
import Derived.LoopN
import Derived.Scope
namespace Go.Proofs.Ytnjlpjdncejfcaa.Ev
set_option linter.unusedVariables false
set_option linter.unusedSimpArgs false

/- A scope with jumps -/
def passes (P : Program) (body : Code) (Q : Exit → Act → World → Prop) : Nat → Code → Act → World → Prop
  | 0, _, _, _ => False
  | n + 1, c, a, w => c.wp P (fun e a' w' => match e with
    | .goto l => ∃ rest, findLabel body l = some rest ∧ passes P body Q n rest a' w'
    | e => Q e a' w') a w

theorem wp_scope_passes {P : Program} {body : Code} {Q : Exit → Act → World → Prop} {a : Act} {w : World} (n : Nat) (h : passes P body Q n body a w) : (Code.scope body).wp P Q a w := by
  intro b k cs
  have key : ∀ n c a w, passes P body Q n c a w → ∃ e a' w', Q e a' w' ∧ Arrives P (lone (b.at a (.code c :: .inScope body :: k)) cs w) b k cs e a' w' := by
    intro n
    induction n with
    | zero => intro c a w h; exact h.elim
    | succ n ih =>
      intro c a w h
      obtain ⟨e, a₁, w₁, hq, harr⟩ := h b (.inScope body :: k) cs
      cases e with
      | normal => exact ⟨.normal, a₁, w₁, hq, Steps.trans harr (.one step_inScope)⟩
      | exit id => exact ⟨.exit id, a₁, w₁, hq, fun k' hk => harr k' (by simp [exitTo, hk])⟩
      | goto l =>
        obtain ⟨rest, hf, hp⟩ := hq
        obtain ⟨e₂, a₂, w₂, hq₂, harr₂⟩ := ih rest a₁ w₁ hp
        exact ⟨e₂, a₂, w₂, hq₂, .of_steps (harr _ (by simp [gotoIn, hf])) harr₂⟩
      | ret => exact ⟨_, a₁, w₁, hq, harr⟩
      | panic ch => exact ⟨_, a₁, w₁, hq, harr⟩
      | outgrown => exact ⟨_, a₁, w₁, hq, harr⟩
  obtain ⟨e, a₁, w₁, hq, harr⟩ := key n body a w h
  exact ⟨e, a₁, w₁, hq, .of_steps (.one step_scope) harr⟩

theorem subLoops_label : ∀ (c : Code) (l : Nat) (rest : Code), findLabel c l = some rest → ∀ x ∈ subLoops rest, x ∈ subLoops c
  | .seq a b, l, rest, h, x, hx => by
    simp only [findLabel] at h
    split at h
    · rename_i r hr
      simp only [Option.some.injEq] at h
      subst h
      simp only [subLoops, List.mem_append] at hx ⊢
      exact hx.imp (subLoops_label a l r hr x) (fun y => y)
    · simp only [subLoops, List.mem_append]
      exact .inr (subLoops_label b l rest h x hx)
  | .label l', l, rest, h, x, hx => by
    simp only [findLabel] at h
    split at h
    · simp only [Option.some.injEq] at h; subst h; simp [subLoops] at hx
    · cases h
  | .skip, _, _, h, _, _ => by simp [findLabel] at h
  | .region .., _, _, h, _, _ => by simp [findLabel] at h
  | .cond .., _, _, h, _, _ => by simp [findLabel] at h
  | .block .., _, _, h, _, _ => by simp [findLabel] at h
  | .loop .., _, _, h, _, _ => by simp [findLabel] at h
  | .scope .., _, _, h, _, _ => by simp [findLabel] at h
  | .exit .., _, _, h, _, _ => by simp [findLabel] at h
  | .goto .., _, _, h, _, _ => by simp [findLabel] at h
  | .ret, _, _, h, _, _ => by simp [findLabel] at h
  | .rangeFunc .., _, _, h, _, _ => by simp [findLabel] at h
  | .refuse .., _, _, h, _, _ => by simp [findLabel] at h

section
variable {P : Program} {fn : Func} {E : Env}

/-- How a run ends. -/
def Is (P : Program) (fn : Func) (E : Env) (S : Start) : Ex → St → Exit → Act → World → Prop
  | .normal, s, x, a, w => x = .normal ∧ Inv E S s a w
  | .exit i, s, x, a, w => x = .exit i ∧ Inv E S s a w
  | .goto l, s, x, a, w => x = .goto l ∧ Inv E S s a w
  | .ret v bs, _, x, a, w => x = .ret ∧ RetOK P fn S v bs a w

def SpOK (P : Program) (fn : Func) (E : Env) (c : Code) (s : St) (ex : Ex) (s' : St) : Prop :=
  ∀ S a w, E.nb = S.bs.length → Inv E S s a w → c.wp P (Is P fn E S ex s') a w

def CutOK (P : Program) (fn : Func) (E : Env) : Code → Prop
  | .loop b => ∀ e hd, E.cut (loopKey b) = some e → E.hint (loopKey b) = some hd → ∀ (R : Type) vs H (k : Ex → St → Option R) r, e.run vs H k = some r → ∃ ex s', k ex s' = some r ∧ SpOK P fn E (.loop b) ⟨mkT hd.keep vs, H⟩ ex s'
  | .scope b => ∀ e hd, E.cut (1000000 + loopKey b) = some e → E.hint (1000000 + loopKey b) = some hd → ∀ (R : Type) vs H (k : Ex → St → Option R) r, e.run vs H k = some r → ∃ ex s', k ex s' = some r ∧ SpOK P fn E (.scope b) ⟨mkT hd.keep vs, H⟩ ex s'
  | _ => True

/-- A piece of code as the evaluator goes through it. -/
def PieceOK (P : Program) (fn : Func) (E : Env) (c : Code) (f : {R : Type} → St → (Ex → St → Option R) → Option R) : Prop :=
  ∀ (R : Type) s (k : Ex → St → Option R) r, f s k = some r → ∃ ex s', k ex s' = some r ∧ SpOK P fn E c s ex s'

theorem evLoop_ok {b : Code} {hd : Hint} {f : {R : Type} → St → (Ex → St → Option R) → Option R} (hf : PieceOK P fn E b f) {R : Type} : ∀ (n : Nat) (vs : List V) (H : List Blk) (k : Ex → St → Option R) (r : R), evLoop E.nb hd f n vs H k = some r →
    ∃ ex s', k ex s' = some r ∧ ∀ S a w, E.nb = S.bs.length → Inv E S ⟨mkT hd.keep vs, H⟩ a w → Code.rounds P b (Is P fn E S ex s') n a w := by
  intro n
  induction n with
  | zero => intro vs H k r h; cases h
  | succ n ih =>
    intro vs H k r h
    unfold evLoop at h
    obtain ⟨ex, s1, h1, h2⟩ := hf R _ _ _ h
    cases ex with
    | normal =>
      dsimp only at h1
      split at h1
      · rename_i vs' H' hn
        obtain ⟨ex, s', g1, g2⟩ := ih _ _ _ _ h1
        refine ⟨ex, s', g1, fun S a w hnb hI => ?_⟩
        rw [rounds_succ]
        refine wp_mono (h2 S a w hnb hI) ?_
        rintro x a' w' ⟨rfl, hI'⟩
        exact g2 S a' w' hnb (norm_ok hn hI')
      · cases h1
    | ret v bs =>
      refine ⟨.ret v bs, .nil, h1, fun S a w hnb hI => ?_⟩
      rw [rounds_succ]
      refine wp_mono (h2 S a w hnb hI) ?_
      rintro x a' w' ⟨rfl, hI'⟩
      exact ⟨rfl, hI'⟩
    | exit i =>
      dsimp only at h1
      split at h1
      · rename_i vs' H' hn
        refine ⟨.exit i, _, h1, fun S a w hnb hI => ?_⟩
        rw [rounds_succ]
        refine wp_mono (h2 S a w hnb hI) ?_
        rintro x a' w' ⟨rfl, hI'⟩
        exact ⟨rfl, norm_ok hn hI'⟩
      · cases h1
    | goto l =>
      dsimp only at h1
      split at h1
      · rename_i vs' H' hn
        refine ⟨.goto l, _, h1, fun S a w hnb hI => ?_⟩
        rw [rounds_succ]
        refine wp_mono (h2 S a w hnb hI) ?_
        rintro x a' w' ⟨rfl, hI'⟩
        exact ⟨rfl, norm_ok hn hI'⟩
      · cases h1

theorem loop_ok {b : Code} {hd : Hint} {f : {R : Type} → St → (Ex → St → Option R) → Option R} (hf : PieceOK P fn E b f) {R : Type} {n : Nat} {vs : List V} {H : List Blk} {k : Ex → St → Option R} {r : R} (h : evLoop E.nb hd f n vs H k = some r) :
    ∃ ex s', k ex s' = some r ∧ SpOK P fn E (.loop b) ⟨mkT hd.keep vs, H⟩ ex s' := by
  obtain ⟨ex, s', h1, h2⟩ := evLoop_ok hf n vs H k r h
  exact ⟨ex, s', h1, fun S a w hnb hI => wp_loop_rounds n (h2 S a w hnb hI)⟩

theorem evScope_ok {body : Code} {hd : Hint} {f : {R : Type} → Code → St → (Ex → St → Option R) → Option R} (hf : ∀ c, (∀ x ∈ subLoops c, x ∈ subLoops body) → PieceOK P fn E c (fun s k => f c s k)) {R : Type} : ∀ (n : Nat) (c : Code) (vs : List V) (H : List Blk) (k : Ex → St → Option R) (r : R), (∀ x ∈ subLoops c, x ∈ subLoops body) →
    evScope E.nb hd f body n c vs H k = some r → ∃ ex s', k ex s' = some r ∧ ∀ S a w, E.nb = S.bs.length → Inv E S ⟨mkT hd.keep vs, H⟩ a w → passes P body (Is P fn E S ex s') n c a w := by
  intro n
  induction n with
  | zero => intro c vs H k r _ h; cases h
  | succ n ih =>
    intro c vs H k r hsub h
    unfold evScope at h
    obtain ⟨ex, s1, h1, h2⟩ := hf c hsub R _ _ _ h
    cases ex with
    | goto l =>
      dsimp only at h1
      split at h1
      · rename_i rest hrest
        split at h1
        · rename_i vs' H' hn
          obtain ⟨ex, s', g1, g2⟩ := ih rest _ _ _ _ (subLoops_label body l rest hrest) h1
          refine ⟨ex, s', g1, fun S a w hnb hI => wp_mono (h2 S a w hnb hI) ?_⟩
          rintro x a' w' ⟨rfl, hI'⟩
          exact ⟨rest, hrest, g2 S a' w' hnb (norm_ok hn hI')⟩
        · cases h1
      · cases h1
    | ret v bs =>
      refine ⟨.ret v bs, .nil, h1, fun S a w hnb hI => wp_mono (h2 S a w hnb hI) ?_⟩
      rintro x a' w' ⟨rfl, hI'⟩
      exact ⟨rfl, hI'⟩
    | normal =>
      dsimp only at h1
      split at h1
      · rename_i vs' H' hn
        refine ⟨.normal, _, h1, fun S a w hnb hI => wp_mono (h2 S a w hnb hI) ?_⟩
        rintro x a' w' ⟨rfl, hI'⟩
        exact ⟨rfl, norm_ok hn hI'⟩
      · cases h1
    | exit i =>
      dsimp only at h1
      split at h1
      · rename_i vs' H' hn
        refine ⟨.exit i, _, h1, fun S a w hnb hI => wp_mono (h2 S a w hnb hI) ?_⟩
        rintro x a' w' ⟨rfl, hI'⟩
        exact ⟨rfl, norm_ok hn hI'⟩
      · cases h1

theorem evCode_ok (hE : EnvOK P E) (hmix : P.follows .mixedOrders = true) (hres : E.res = fn.results.toList) : ∀ (d : Nat) (c : Code), (∀ b ∈ subLoops c, CutOK P fn E b) → PieceOK P fn E c (fun s k => evCode E d c s k) := by
  intro d
  induction d with
  | zero => intro c _ R s k r h; cases h
  | succ d ih =>
    intro c hcut R s k r h
    dsimp only at h
    unfold evCode at h
    cases c with
    | skip => exact ⟨.normal, s, h, fun S a w hnb hI => wp_skip ⟨rfl, hI⟩⟩
    | label l => exact ⟨.normal, s, h, fun S a w hnb hI => wp_label ⟨rfl, hI⟩⟩
    | exit id => exact ⟨.exit id, s, h, fun S a w hnb hI => wp_exit ⟨rfl, hI⟩⟩
    | goto l => exact ⟨.goto l, s, h, fun S a w hnb hI => wp_goto ⟨rfl, hI⟩⟩
    | rangeFunc => cases h
    | refuse => cases h
    | ret =>
      dsimp only at h
      split at h
      · rename_i v bs hf
        exact ⟨.ret v bs, .nil, h, fun S a w hnb hI => wp_ret ⟨rfl, fin_ok hE.ty hres hnb hf hI⟩⟩
      · cases h
    | region id ops draw =>
      obtain ⟨s', h1, h2, h3⟩ := region_ok (id := id) hE hmix h
      refine ⟨.normal, s', h1, fun S a w hnb hI => ?_⟩
      obtain ⟨ρ, r1, r2, r3, r4, r5⟩ := hI
      refine h3 S.F ρ a w _ r1 r2 (fun ρ' a' w' q1 q2 q3 q4 => ⟨rfl, ρ', q1, q2, fun j hj => by rw [q3 j (by omega)]; exact r3 j hj, by omega, r5.trans q4⟩)
    | seq x y =>
      obtain ⟨ex, s1, h1, h2⟩ := ih x (fun b hb => hcut b (by simp [subLoops, hb])) R _ _ _ h
      cases ex with
      | normal =>
        obtain ⟨ex, s', g1, g2⟩ := ih y (fun b hb => hcut b (by simp [subLoops, hb])) R _ _ _ h1
        refine ⟨ex, s', g1, fun S a w hnb hI => wp_seq (wp_mono (h2 S a w hnb hI) ?_)⟩
        rintro e a' w' ⟨rfl, hI'⟩
        exact g2 S a' w' hnb hI'
      | ret v bs =>
        refine ⟨.ret v bs, s1, h1, fun S a w hnb hI => wp_seq (wp_mono (h2 S a w hnb hI) ?_)⟩
        rintro e a' w' ⟨rfl, hI'⟩
        exact ⟨rfl, hI'⟩
      | exit i =>
        refine ⟨.exit i, s1, h1, fun S a w hnb hI => wp_seq (wp_mono (h2 S a w hnb hI) ?_)⟩
        rintro e a' w' ⟨rfl, hI'⟩
        exact ⟨rfl, hI'⟩
      | goto l =>
        refine ⟨.goto l, s1, h1, fun S a w hnb hI => wp_seq (wp_mono (h2 S a w hnb hI) ?_)⟩
        rintro e a' w' ⟨rfl, hI'⟩
        exact ⟨rfl, hI'⟩
    | cond c x y =>
      dsimp only at h
      split at h
      · rename_i b hb
        rw [evO_eq] at hb
        have hev : ∀ {S a w}, Inv E S s a w → a.eval c = .bool b := by
          rintro S a w ⟨ρ, r1, _⟩
          have := r1.ev c
          rw [hb] at this
          simpa only [Rel] using this
        cases b <;> simp only [cond_true, cond_false] at h
        · obtain ⟨ex, s1, h1, h2⟩ := ih y (fun b hb => hcut b (by simp [subLoops, hb])) R _ _ _ h
          exact ⟨ex, s1, h1, fun S a w hnb hI => wp_cond_false (hev hI) (h2 S a w hnb hI)⟩
        · obtain ⟨ex, s1, h1, h2⟩ := ih x (fun b hb => hcut b (by simp [subLoops, hb])) R _ _ _ h
          exact ⟨ex, s1, h1, fun S a w hnb hI => wp_cond_true (hev hI) (h2 S a w hnb hI)⟩
      · cases h
    | block id b =>
      obtain ⟨ex, s1, h1, h2⟩ := ih b (fun x hx => hcut x (by simpa [subLoops] using hx)) R _ _ _ h
      cases ex with
      | normal =>
        refine ⟨.normal, s1, h1, fun S a w hnb hI => wp_block (wp_mono (h2 S a w hnb hI) ?_)⟩
        rintro e a' w' ⟨rfl, hI'⟩
        exact ⟨rfl, hI'⟩
      | ret v bs =>
        refine ⟨.ret v bs, s1, h1, fun S a w hnb hI => wp_block (wp_mono (h2 S a w hnb hI) ?_)⟩
        rintro e a' w' ⟨rfl, hI'⟩
        exact ⟨rfl, hI'⟩
      | goto l =>
        refine ⟨.goto l, s1, h1, fun S a w hnb hI => wp_block (wp_mono (h2 S a w hnb hI) ?_)⟩
        rintro e a' w' ⟨rfl, hI'⟩
        exact ⟨rfl, hI'⟩
      | exit i =>
        dsimp only at h1
        cases hb : Nat.beq i id <;> rw [hb] at h1 <;> simp only [cond_true, cond_false] at h1
        · refine ⟨.exit i, s1, h1, fun S a w hnb hI => wp_block (wp_mono (h2 S a w hnb hI) ?_)⟩
          rintro e a' w' ⟨rfl, hI'⟩
          simp only [Exit.inBlock]
          rw [if_neg (fun e => by subst e; simp at hb)]
          exact ⟨rfl, hI'⟩
        · refine ⟨.normal, s1, h1, fun S a w hnb hI => wp_block (wp_mono (h2 S a w hnb hI) ?_)⟩
          rintro e a' w' ⟨rfl, hI'⟩
          simp only [Exit.inBlock]
          rw [if_pos (beq_eq hb)]
          exact ⟨rfl, hI'⟩
    | loop b =>
      dsimp only at h
      split at h
      · cases h
      · rename_i hd hhd
        split at h
        · cases h
        · rename_i vs H hn
          have key : ∃ ex s', k ex s' = some r ∧ SpOK P fn E (.loop b) ⟨mkT hd.keep vs, H⟩ ex s' := by
            split at h
            · rename_i e he
              exact hcut (.loop b) (by simp [subLoops]) e hd he hhd R vs H k r h
            · exact loop_ok (ih b (fun x hx => hcut x (by simp [subLoops, hx]))) h
          obtain ⟨ex, s', g1, g2⟩ := key
          exact ⟨ex, s', g1, fun S a w hnb hI => g2 S a w hnb (norm_ok hn hI)⟩
    | scope b =>
      dsimp only at h
      cases hj : isJump b 0 <;> rw [hj] at h <;> simp only [cond_true, cond_false] at h
      · obtain ⟨ex, s1, h1, h2⟩ := ih b (fun x hx => hcut x (by simp [subLoops, hx])) R _ _ _ h
        cases ex with
        | goto l => cases h1
        | normal =>
          refine ⟨.normal, s1, h1, fun S a w hnb hI => wp_scope_straight (wp_mono (h2 S a w hnb hI) ?_)⟩
          rintro e a' w' ⟨rfl, hI'⟩
          exact ⟨rfl, hI'⟩
        | ret v bs =>
          refine ⟨.ret v bs, s1, h1, fun S a w hnb hI => wp_scope_straight (wp_mono (h2 S a w hnb hI) ?_)⟩
          rintro e a' w' ⟨rfl, hI'⟩
          exact ⟨rfl, hI'⟩
        | exit i =>
          refine ⟨.exit i, s1, h1, fun S a w hnb hI => wp_scope_straight (wp_mono (h2 S a w hnb hI) ?_)⟩
          rintro e a' w' ⟨rfl, hI'⟩
          exact ⟨rfl, hI'⟩
      · split at h
        · cases h
        · rename_i hd hhd
          split at h
          · cases h
          · rename_i vs H hn
            have key : ∃ ex s', k ex s' = some r ∧ SpOK P fn E (.scope b) ⟨mkT hd.keep vs, H⟩ ex s' := by
              split at h
              · rename_i e he
                exact hcut (.scope b) (by simp [subLoops]) e hd he hhd R vs H k r h
              · obtain ⟨ex, s', g1, g2⟩ := evScope_ok (f := fun c s k => evCode E d c s k) (body := b) (fun c hc => ih c (fun x hx => hcut x (by simp [subLoops, hc x hx]))) E.N b vs H k r (fun _ hx => hx) h
                exact ⟨ex, s', g1, fun S a w hnb hI => wp_scope_passes E.N (g2 S a w hnb hI)⟩
            obtain ⟨ex, s', g1, g2⟩ := key
            exact ⟨ex, s', g1, fun S a w hnb hI => g2 S a w hnb (norm_ok hn hI)⟩

/-- A function's body as the evaluator goes through it: its law. -/
theorem evFun_ok (hE : EnvOK P E) (hmix : P.follows .mixedOrders = true) {f : Nat} {body : Code} (hf : P.funcs[f]? = some fn) (hb : fn.body = some body) (hname : (fn.name == "runtime.NumGoroutine") = false) (hres : E.res = fn.results.toList) (hnt : E.ntmps = fn.ntmps)
    {args : List V} {bs : List Blk} (hnb : E.nb = bs.length) (hargs : args.length ≤ fn.ntmps) (hcut : ∀ b ∈ subLoops body, CutOK P fn E b) {R : Type} {k : V → List Blk → Option R} {r : R} (h : evFun E body args bs k = some r) :
    ∃ v bs', k v bs' = some r ∧ FnSpec P f args bs v bs' := by
  unfold evFun at h
  obtain ⟨ex, s', h1, h2⟩ := evCode_ok hE hmix hres depth body hcut R _ _ _ h
  have fin1 : ∃ v bs', k v bs' = some r ∧ ∀ S a w, E.nb = S.bs.length → ∀ x, Is P fn E S ex s' x a w → (x = .ret ∨ x = .normal) ∧ RetOK P fn S v bs' a w := by
    cases ex with
    | normal =>
      dsimp only at h1
      split at h1
      · rename_i v bs' hf
        exact ⟨v, bs', h1, fun S a w hn x hx => ⟨.inr hx.1, fin_ok hE.ty hres hn hf hx.2⟩⟩
      · cases h1
    | ret v bs' => exact ⟨v, bs', h1, fun S a w hn x hx => ⟨.inl hx.1, hx.2⟩⟩
    | exit i => cases h1
    | goto l => cases h1
  obtain ⟨v, bs', g1, g2⟩ := fin1
  refine ⟨v, bs', g1, ⟨fn, hf, by rw [hb]; rfl, hname⟩, ?_⟩
  intro F ρ w args' hH hn hr
  refine calls_of_wp hf hb ?_
  have hlen := hr.length
  have hI : Inv E ⟨F, ρ, bs, w⟩ ⟨mkArgs 0 args, bs⟩ { tmps := args'.toArray ++ Array.replicate (fn.ntmps - args'.toArray.size) undef, defers := [] } w := by
    refine ⟨ρ, ⟨hH, fun t => ?_, ?_, rfl⟩, hn, fun _ _ => rfl, by dsimp only; omega, Ext.refl _ _⟩
    · have := look_mkArgs args args' 0 t ρ _ w undef hr
      have e : (if 0 ≤ t ∧ t < 0 + args'.length then args'.getD (t - 0) undef else undef) = Act.eval { tmps := args'.toArray ++ Array.replicate (fn.ntmps - args'.toArray.size) undef, defers := [] } (.tmp t) := by
        simp only [Act.eval, Array.getD_eq_getD_getElem?, Array.getElem?_append, List.size_toArray, List.getElem?_toArray, Array.getElem?_replicate]
        by_cases ht : t < args'.length
        · rw [if_pos (by omega), if_pos ht]; simp [List.getD_eq_getElem?_getD]
        · rw [if_neg (by omega), if_neg ht]; split <;> rfl
      rw [← e]; exact this
    · simp only [Array.size_append, List.size_toArray, Array.size_replicate, hnt]; omega
  refine wp_mono (h2 ⟨F, ρ, bs, w⟩ _ w hnb hI) ?_
  intro x a' w' hx
  obtain ⟨hx', hd, u, hu, hp⟩ := g2 ⟨F, ρ, bs, w⟩ a' w' hnb x hx
  rcases hx' with rfl | rfl
  · exact ⟨hd, u, hu, u, rfl, hp⟩
  · exact ⟨hd, u, hu, u, rfl, hp⟩

/-- Arguments told in another form. -/
theorem FnSpec.of_freeze {f : Nat} {ss : List Sh} {args args2 : List V} {v : V} {bs' : List Blk} (hz : freezeL 0 (fun _ => .dead) ss args = some args2) (h : FnSpec P f args2 [] v bs') : FnSpec P f args [] v bs' := by
  refine ⟨h.callable, fun F ρ w args' hH hn hr => h.calls F ρ w args' hH hn ?_⟩
  have hd : blkAt [] = fun _ => Blk.dead := by funext j; rfl
  rw [hd] at hH hr ⊢
  exact freezeL_ok hH (fun i hi => by omega) (fun b hb => hb) (fun b hb => by obtain ⟨_, _, _, _, hl⟩ := hb; exact hl.elim) ss args args2 args' hz hr

end
end Go.Proofs.Ytnjlpjdncejfcaa.Ev
