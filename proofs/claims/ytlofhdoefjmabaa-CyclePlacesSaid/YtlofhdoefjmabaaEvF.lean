/-
  The evaluator's code is sound. (A text of ours; no condition.)
-/
import Derived.Test.YtlofhdoefjmabaaEvE
import Derived.LoopN
import Derived.Scope
import Derived.KernelRfl
import Derived.Shelf.SlSortCmp.NoneTotal
import Derived.WalkKit
import Derived.ProofKit
import Derived.OpenShut
import Derived.ShutString
import Derived.ChangeOld
import Derived.Below
import Derived.SizedLaws
import Derived.ChangeSlices
import Derived.Deep.SlicePairs
namespace Go.Proofs.Ytlofhdoefjmabaa.Ev
set_option linter.unusedVariables false
set_option linter.unusedSimpArgs false

/- A scope with jumps -/
def passes (P : Program) (body : Code) (Q : Exit → Act → World → Prop) : Nat → Code → Act → World → Prop
  | 0, _, _, _ => False
  | n + 1, c, a, w => c.wp P (fun e a' w' => match e with
    | .goto l => ∃ rest, findLabel body l = some rest ∧ passes P body Q n rest a' w'
    | e => Q e a' w') a w

theorem wp_scope_passes {P : Program} {body : Code} {Q : Exit → Act → World → Prop} {a : Act} {w : World} (n : Nat) (h : passes P body Q n body a w) : (Code.scope body).wp P Q a w := by
  intro b k cs
  have key : ∀ n c a w, passes P body Q n c a w → ∃ e a' w', Q e a' w' ∧ Arrives P (lone (b.at a (.code c :: .inScope body :: k)) cs w) b k cs e a' w' := by
    intro n
    induction n with
    | zero => intro c a w h; exact h.elim
    | succ n ih =>
      intro c a w h
      obtain ⟨e, a₁, w₁, hq, harr⟩ := h b (.inScope body :: k) cs
      cases e with
      | normal => exact ⟨.normal, a₁, w₁, hq, Steps.trans harr (.one step_inScope)⟩
      | exit id => exact ⟨.exit id, a₁, w₁, hq, fun k' hk => harr k' (by simp [exitTo, hk])⟩
      | goto l =>
        obtain ⟨rest, hf, hp⟩ := hq
        obtain ⟨e₂, a₂, w₂, hq₂, harr₂⟩ := ih rest a₁ w₁ hp
        exact ⟨e₂, a₂, w₂, hq₂, .of_steps (harr _ (by simp [gotoIn, hf])) harr₂⟩
      | ret => exact ⟨_, a₁, w₁, hq, harr⟩
      | panic ch => exact ⟨_, a₁, w₁, hq, harr⟩
      | outgrown => exact ⟨_, a₁, w₁, hq, harr⟩
  obtain ⟨e, a₁, w₁, hq, harr⟩ := key n body a w h
  exact ⟨e, a₁, w₁, hq, .of_steps (.one step_scope) harr⟩

theorem subLoops_label : ∀ (c : Code) (l : Nat) (rest : Code), findLabel c l = some rest → ∀ x ∈ subLoops rest, x ∈ subLoops c
  | .seq a b, l, rest, h, x, hx => by
    simp only [findLabel] at h
    split at h
    · rename_i r hr
      simp only [Option.some.injEq] at h
      subst h
      simp only [subLoops, List.mem_append] at hx ⊢
      exact hx.imp (subLoops_label a l r hr x) (fun y => y)
    · simp only [subLoops, List.mem_append]
      exact .inr (subLoops_label b l rest h x hx)
  | .label l', l, rest, h, x, hx => by
    simp only [findLabel] at h
    split at h
    · simp only [Option.some.injEq] at h; subst h; simp [subLoops] at hx
    · cases h
  | .skip, _, _, h, _, _ => by simp [findLabel] at h
  | .region .., _, _, h, _, _ => by simp [findLabel] at h
  | .cond .., _, _, h, _, _ => by simp [findLabel] at h
  | .block .., _, _, h, _, _ => by simp [findLabel] at h
  | .loop .., _, _, h, _, _ => by simp [findLabel] at h
  | .scope .., _, _, h, _, _ => by simp [findLabel] at h
  | .exit .., _, _, h, _, _ => by simp [findLabel] at h
  | .goto .., _, _, h, _, _ => by simp [findLabel] at h
  | .ret, _, _, h, _, _ => by simp [findLabel] at h
  | .rangeFunc .., _, _, h, _, _ => by simp [findLabel] at h
  | .refuse .., _, _, h, _, _ => by simp [findLabel] at h

section
variable {P : Program} {fn : Func} {E : Env}

/-- How a run ends. -/
def Is (P : Program) (fn : Func) (E : Env) (S : Start) : Ex → St → Exit → Act → World → Prop
  | .normal, s, x, a, w => x = .normal ∧ Inv E S s a w
  | .exit i, s, x, a, w => x = .exit i ∧ Inv E S s a w
  | .goto l, s, x, a, w => x = .goto l ∧ Inv E S s a w
  | .ret v bs, _, x, a, w => x = .ret ∧ RetOK P fn S v bs a w

/-- A piece of code from a state: however it ends, what is told there is r. -/
def SpK (P : Program) (fn : Func) (E : Env) (c : Code) (s : St) {R : Type} (k : Ex → St → Option R) (r : R) : Prop :=
  ∀ S a w, E.nb = S.bs.length → Inv E S s a w → c.wp P (fun x a' w' => ∃ ex s', k ex s' = some r ∧ Is P fn E S ex s' x a' w') a w

def CutOK (P : Program) (fn : Func) (E : Env) : Code → Prop
  | .loop b => ∀ e hd, E.cut (loopKey b) = some e → E.hint (loopKey b) = some hd → ∀ (R : Type) vs H (k : Ex → St → Option R) r, e.run vs H k = some r → SpK P fn E (.loop b) ⟨mkT hd.keep vs, H⟩ k r
  | .scope b => ∀ e hd, E.cut (1000000 + loopKey b) = some e → E.hint (1000000 + loopKey b) = some hd → ∀ (R : Type) vs H (k : Ex → St → Option R) r, e.run vs H k = some r → SpK P fn E (.scope b) ⟨mkT hd.keep vs, H⟩ k r
  | _ => True

/-- A piece of code as the evaluator goes through it. -/
def PieceOK (P : Program) (fn : Func) (E : Env) (c : Code) (f : {R : Type} → St → (Ex → St → Option R) → Option R) : Prop :=
  ∀ (R : Type) s (k : Ex → St → Option R) r, f s k = some r → SpK P fn E c s k r

theorem evLoop_ok {b : Code} {hd : Hint} {f : {R : Type} → St → (Ex → St → Option R) → Option R} (hf : PieceOK P fn E b f) {R : Type} : ∀ (n : Nat) (vs : List V) (H : List Blk) (k : Ex → St → Option R) (r : R), evLoop E.nb hd f n vs H k = some r →
    ∀ S a w, E.nb = S.bs.length → Inv E S ⟨mkT hd.keep vs, H⟩ a w → Code.rounds P b (fun x a' w' => ∃ ex s', k ex s' = some r ∧ Is P fn E S ex s' x a' w') n a w := by
  intro n
  induction n with
  | zero => intro vs H k r h; cases h
  | succ n ih =>
    intro vs H k r h S a w hnb hI
    unfold evLoop at h
    rw [rounds_succ]
    refine wp_mono (hf R _ _ _ h S a w hnb hI) ?_
    rintro x a' w' ⟨ex, s1, h1, h2⟩
    cases ex with
    | normal =>
      obtain ⟨rfl, hI'⟩ := h2
      dsimp only at h1
      split at h1
      · rename_i vs' H' hn
        exact ih _ _ _ _ h1 S a' w' hnb (norm_ok hn hI')
      · cases h1
    | ret v bs =>
      obtain ⟨rfl, hI'⟩ := h2
      exact ⟨.ret v bs, .nil, h1, rfl, hI'⟩
    | exit i =>
      obtain ⟨rfl, hI'⟩ := h2
      dsimp only at h1
      split at h1
      · rename_i vs' H' hn
        exact ⟨.exit i, _, h1, rfl, norm_ok hn hI'⟩
      · cases h1
    | goto l =>
      obtain ⟨rfl, hI'⟩ := h2
      dsimp only at h1
      split at h1
      · rename_i vs' H' hn
        exact ⟨.goto l, _, h1, rfl, norm_ok hn hI'⟩
      · cases h1

theorem loop_ok {b : Code} {hd : Hint} {f : {R : Type} → St → (Ex → St → Option R) → Option R} (hf : PieceOK P fn E b f) {R : Type} {n : Nat} {vs : List V} {H : List Blk} {k : Ex → St → Option R} {r : R} (h : evLoop E.nb hd f n vs H k = some r) :
    SpK P fn E (.loop b) ⟨mkT hd.keep vs, H⟩ k r := fun S a w hnb hI => wp_loop_rounds n (evLoop_ok hf n vs H k r h S a w hnb hI)

theorem evScope_ok {body : Code} {hd : Hint} {f : {R : Type} → Code → St → (Ex → St → Option R) → Option R} (hf : ∀ c, (∀ x ∈ subLoops c, x ∈ subLoops body) → PieceOK P fn E c (fun s k => f c s k)) {R : Type} : ∀ (n : Nat) (c : Code) (vs : List V) (H : List Blk) (k : Ex → St → Option R) (r : R), (∀ x ∈ subLoops c, x ∈ subLoops body) →
    evScope E.nb hd f body n c vs H k = some r → ∀ S a w, E.nb = S.bs.length → Inv E S ⟨mkT hd.keep vs, H⟩ a w → passes P body (fun x a' w' => ∃ ex s', k ex s' = some r ∧ Is P fn E S ex s' x a' w') n c a w := by
  intro n
  induction n with
  | zero => intro c vs H k r _ h; cases h
  | succ n ih =>
    intro c vs H k r hsub h S a w hnb hI
    unfold evScope at h
    refine wp_mono (hf c hsub R _ _ _ h S a w hnb hI) ?_
    rintro x a' w' ⟨ex, s1, h1, h2⟩
    cases ex with
    | goto l =>
      obtain ⟨rfl, hI'⟩ := h2
      dsimp only at h1
      split at h1
      · rename_i rest hrest
        split at h1
        · rename_i vs' H' hn
          exact ⟨rest, hrest, ih rest _ _ _ _ (subLoops_label body l rest hrest) h1 S a' w' hnb (norm_ok hn hI')⟩
        · cases h1
      · cases h1
    | ret v bs =>
      obtain ⟨rfl, hI'⟩ := h2
      exact ⟨.ret v bs, .nil, h1, rfl, hI'⟩
    | normal =>
      obtain ⟨rfl, hI'⟩ := h2
      dsimp only at h1
      split at h1
      · rename_i vs' H' hn
        exact ⟨.normal, _, h1, rfl, norm_ok hn hI'⟩
      · cases h1
    | exit i =>
      obtain ⟨rfl, hI'⟩ := h2
      dsimp only at h1
      split at h1
      · rename_i vs' H' hn
        exact ⟨.exit i, _, h1, rfl, norm_ok hn hI'⟩
      · cases h1

theorem demon_some {R : Type} {n : Nat} {f : Nat → Option R} {r : R} (h : demon n f = some r) : ∀ i, i < n → f i = some r := by
  unfold demon at h
  split at h
  · rename_i hx
    simp only [Option.some.injEq] at h
    rw [← h]
    exact Classical.choose_spec hx.2
  · cases h

theorem demon_eq {R : Type} {n : Nat} {f : Nat → Option R} {r : R} (hn : 0 < n) (h : ∀ i, i < n → f i = some r) : demon n f = some r := by
  unfold demon
  have hx : 0 < n ∧ ∃ r, ∀ i, i < n → f i = some r := ⟨hn, r, h⟩
  rw [dif_pos hx]
  have := Classical.choose_spec hx.2 0 hn
  rw [h 0 hn] at this
  exact this.symm

theorem next_region_ok {id : Nat} {ops : Array Oper} {it : Operand} {d1 d2 : Nat} (hn : isNext ops.toList = some (it, d1, d2)) (h1 : Nat.blt d1 E.ntmps = true) (h2 : Nat.blt d2 E.ntmps = true) {s : St} {R : Type} {k : St → Option R} {r : R} (hr : evNext d1 d2 (evO s.T it) s.T s.H k = some r) :
    ∀ S a w, Inv E S s a w → (Code.region id ops false).wp P (fun x a' w' => x = .normal ∧ ∃ s', k s' = some r ∧ Inv E S s' a' w') a w := by
  intro S a w hI
  unfold isNext at hn
  split at hn
  · rename_i l o1 o2 hops
    split at hn
    · rename_i it' t0 t d2' e1 e2 e3 e4 e5 e6
      obtain ⟨ht, hn⟩ := cond_some hn
      have ht := beq_eq ht
      subst ht
      simp only [Option.some.injEq, Prod.mk.injEq] at hn
      obtain ⟨rfl, rfl, rfl⟩ := hn
      obtain rfl : ops = #[o1, o2] := by apply Array.ext'; simpa using hops
      obtain ⟨ρ, hrep, q1, q2, q3, q4⟩ := hI
      unfold evNext at hr
      split at hr
      · rename_i idd ext hit
        split at hr
        · rename_i mid cnt rem cur hid
          split at hr
          rotate_left
          · cases hr
          rename_i kd n ks vs hmid
          obtain ⟨hcn, hr0⟩ := cond_some hr
          clear hr
          have hr := hr0
          clear hr0
          have hcn := beq_eq hcn
          have hev := hrep.ev it'
          rw [← evO_eq, hit] at hev
          have hwanted : ∀ (o : Oper) (h : o.guard = none) (y : Nat → Option Bool), Region.wanted o y = true := fun o h y => by unfold Region.wanted; rw [h]
          have hl : idd < s.H.length := by
            rcases Nat.lt_or_ge idd s.H.length with h | h
            · exact h
            · have h0 : s.H[idd]? = none := List.getElem?_eq_none h
              rw [blkAt_getD, List.getD_eq_getElem?_getD, h0] at hid
              cases hid
          have fin : ∀ (b : Bool) (v : Value) (w' : World) (H' : List Blk), (Instr.next (a.eval it') false o1.type).run P w = .ok v w' → (Instr.extract v 0).run P w' = .ok (.bool b) w' → H'.length = s.H.length →
              HeapRel S.F ρ (blkAt H') w' → Ext (liveM ρ (blkAt s.H)) w (liveM ρ (blkAt H')) w' → k ⟨(d2', .c (.bool b)) :: (t, .poison) :: s.T, H'⟩ = some r →
              (Code.region id #[o1, o2] false).wp P (fun x a' w' => x = .normal ∧ ∃ s', k s' = some r ∧ Inv E S s' a' w') a w := by
            intro b v w' H' hrun hext hlen hh he hk
            have r1 : Rep E S.F ρ (look s.T) (blkAt H') a w' := hrep.put (Sub.refl _) hh he (d := none) rfl (x := .poison) (v := .bool b) (by simp only [Rel])
            have r2 := r1.put (Sub.refl _) hh (Ext.refl _ _) (d := some t) h1 (x := .poison) (v := v) (by simp only [Rel])
            have r3 := r2.put (Sub.refl _) hh (Ext.refl _ _) (d := some d2') h2 (x := .c (.bool b)) (v := .bool b) (Rel.of_c _)
            have hev1 : (a.put (some t) v).eval (.tmp t) = v := by
              have hlt : t < a.tmps.size := by rw [hrep.size]; exact blt_lt h1
              simp only [Act.put, Act.eval]
              rw [Array.getD_eq_getD_getElem?, Array.getElem?_setIfInBounds_self_of_lt hlt]; rfl
            refine wp_region ?_
            show wpOps P #[o1, o2] _ [0, 1] a w
            rw [wpOps_cons]
            unfold wpOp
            simp only [List.getElem?_toArray, List.getElem?_cons_zero]
            rw [if_pos (hwanted o1 e3 _)]
            refine .inl ?_
            unfold Oper.wp execOp
            rw [e1]
            simp only [Sem.run_bind, hrun, Result.andThen_ok, Sem.run_pure]
            rw [Oper.upon_value, e2, wpOps_cons]
            unfold wpOp
            simp only [List.getElem?_toArray, List.getElem?_cons_zero, List.getElem?_cons_succ]
            rw [if_pos (hwanted o2 e6 _)]
            refine .inl ?_
            unfold Oper.wp execOp
            rw [e4]
            simp only [hev1, Sem.run_bind, hext, Result.andThen_ok, Sem.run_pure]
            rw [Oper.upon_value, e5]
            refine ⟨rfl, _, hk, ρ, ?_, fun j hj => q1 j (by dsimp only at hj; omega), q2, by dsimp only; omega, q4.trans he⟩
            have e : look ((d2', V.c (.bool b)) :: (t, .poison) :: s.T) = putF (putF (look s.T) (some t) .poison) (some d2') (.c (.bool b)) := by
              rw [← look_put, ← look_put]; rfl
            dsimp only
            rw [e]
            exact r3
          rcases next_ok (P := P) hrep.heap hev hid hmid hcn o1.type with ⟨hr0, hrun⟩ | ⟨p, u1, u2, w', hp, hrun, hh, he⟩
          · subst hr0
            simp only [List.isEmpty_nil, cond_true] at hr
            exact fin false _ w s.H hrun (by simp [Instr.extract]) rfl hrep.heap (Ext.refl _ _) hr
          · have hne : rem.isEmpty = false := by cases rem with
              | nil => simp at hp
              | cons => rfl
            simp only [hne, cond_false] at hr
            have hk := demon_some hr p hp
            have hb : blkAt (setBlk s.H idd (.it (some mid) cnt (rem.eraseIdx p) (rem.getD p 0))) = setH (blkAt s.H) idd (.it (some mid) cnt (rem.eraseIdx p) (rem.getD p 0)) := blkAt_set _ _ _ hl
            exact fin true _ w' _ hrun (by simp [Instr.extract]) (setBlk_length _ _ _) (by rw [hb]; exact hh) (by rw [hb]; exact he) hk
        · cases hr
      · cases hr
    · cases hn
  · cases hn

theorem evCode_ok (hE : EnvOK P E) (hmix : P.follows .mixedOrders = true) (hres : E.res = fn.results.toList) : ∀ (d : Nat) (c : Code), (∀ b ∈ subLoops c, CutOK P fn E b) → PieceOK P fn E c (fun s k => evCode E d c s k) := by
  intro d
  induction d with
  | zero => intro c _ R s k r h; cases h
  | succ d ih =>
    intro c hcut R s k r h S a w hnb hI
    dsimp only at h
    unfold evCode at h
    cases c with
    | skip => exact wp_skip ⟨.normal, s, h, rfl, hI⟩
    | label l => exact wp_label ⟨.normal, s, h, rfl, hI⟩
    | exit id => exact wp_exit ⟨.exit id, s, h, rfl, hI⟩
    | goto l => exact wp_goto ⟨.goto l, s, h, rfl, hI⟩
    | rangeFunc => cases h
    | refuse => cases h
    | ret =>
      dsimp only at h
      split at h
      · rename_i v bs hf
        exact wp_ret ⟨.ret v bs, .nil, h, rfl, fin_ok hE.ty hres hnb hf hI⟩
      · cases h
    | region id ops draw =>
      dsimp only at h
      split at h
      · rename_i it d1 d2 hn
        obtain ⟨hg, h'⟩ := cond_some h
        clear h
        obtain ⟨hd, hg⟩ := two_true hg
        obtain ⟨hd1, hd2⟩ := two_true hg
        have hd : draw = false := by simpa using hd
        subst hd
        refine wp_mono (next_region_ok hn hd1 hd2 h' S a w hI) ?_
        rintro x a' w' ⟨rfl, s', hk, hI'⟩
        exact ⟨.normal, s', hk, rfl, hI'⟩
      · obtain ⟨s', h1, h2, h3⟩ := region_ok (id := id) hE hmix h
        obtain ⟨ρ, r1, r2, r3, r4, r5⟩ := hI
        refine h3 S.F ρ a w _ r1 r2 (fun ρ' a' w' q1 q2 q3 q4 => ⟨.normal, s', h1, rfl, ρ', q1, q2, fun j hj => by rw [q3 j (by omega)]; exact r3 j hj, by omega, r5.trans q4⟩)
    | seq x y =>
      refine wp_seq (wp_mono (ih x (fun b hb => hcut b (by simp [subLoops, hb])) R _ _ _ h S a w hnb hI) ?_)
      rintro e a' w' ⟨ex, s1, h1, h2⟩
      cases ex with
      | normal =>
        obtain ⟨rfl, hI'⟩ := h2
        exact ih y (fun b hb => hcut b (by simp [subLoops, hb])) R _ _ _ h1 S a' w' hnb hI'
      | ret v bs => obtain ⟨rfl, hI'⟩ := h2; exact ⟨.ret v bs, s1, h1, rfl, hI'⟩
      | exit i => obtain ⟨rfl, hI'⟩ := h2; exact ⟨.exit i, s1, h1, rfl, hI'⟩
      | goto l => obtain ⟨rfl, hI'⟩ := h2; exact ⟨.goto l, s1, h1, rfl, hI'⟩
    | cond c x y =>
      dsimp only at h
      split at h
      · rename_i b hb
        rw [evO_eq] at hb
        have hev : a.eval c = .bool b := by
          obtain ⟨ρ, r1, _⟩ := hI
          have := r1.ev c
          rw [hb] at this
          simpa only [Rel] using this
        cases b <;> simp only [cond_true, cond_false] at h
        · exact wp_cond_false hev (ih y (fun b hb => hcut b (by simp [subLoops, hb])) R _ _ _ h S a w hnb hI)
        · exact wp_cond_true hev (ih x (fun b hb => hcut b (by simp [subLoops, hb])) R _ _ _ h S a w hnb hI)
      · cases h
    | block id b =>
      refine wp_block (wp_mono (ih b (fun x hx => hcut x (by simpa [subLoops] using hx)) R _ _ _ h S a w hnb hI) ?_)
      rintro e a' w' ⟨ex, s1, h1, h2⟩
      cases ex with
      | normal => obtain ⟨rfl, hI'⟩ := h2; exact ⟨.normal, s1, h1, rfl, hI'⟩
      | ret v bs => obtain ⟨rfl, hI'⟩ := h2; exact ⟨.ret v bs, s1, h1, rfl, hI'⟩
      | goto l => obtain ⟨rfl, hI'⟩ := h2; exact ⟨.goto l, s1, h1, rfl, hI'⟩
      | exit i =>
        obtain ⟨rfl, hI'⟩ := h2
        dsimp only at h1
        simp only [Exit.inBlock]
        cases hb : Nat.beq i id <;> rw [hb] at h1 <;> simp only [cond_true, cond_false] at h1
        · rw [if_neg (fun e => by subst e; simp at hb)]
          exact ⟨.exit i, s1, h1, rfl, hI'⟩
        · rw [if_pos (beq_eq hb)]
          exact ⟨.normal, s1, h1, rfl, hI'⟩
    | loop b =>
      dsimp only at h
      split at h
      · cases h
      · rename_i hd hhd
        split at h
        · cases h
        · rename_i vs H hn
          have key : SpK P fn E (.loop b) ⟨mkT hd.keep vs, H⟩ k r := by
            split at h
            · rename_i e he
              exact hcut (.loop b) (by simp [subLoops]) e hd he hhd R vs H k r h
            · exact loop_ok (ih b (fun x hx => hcut x (by simp [subLoops, hx]))) h
          exact key S a w hnb (norm_ok hn hI)
    | scope b =>
      dsimp only at h
      cases hj : isJump b 0 <;> rw [hj] at h <;> simp only [cond_true, cond_false] at h
      · refine wp_scope_straight (wp_mono (ih b (fun x hx => hcut x (by simp [subLoops, hx])) R _ _ _ h S a w hnb hI) ?_)
        rintro e a' w' ⟨ex, s1, h1, h2⟩
        cases ex with
        | goto l => cases h1
        | normal => obtain ⟨rfl, hI'⟩ := h2; exact ⟨.normal, s1, h1, rfl, hI'⟩
        | ret v bs => obtain ⟨rfl, hI'⟩ := h2; exact ⟨.ret v bs, s1, h1, rfl, hI'⟩
        | exit i => obtain ⟨rfl, hI'⟩ := h2; exact ⟨.exit i, s1, h1, rfl, hI'⟩
      · split at h
        · cases h
        · rename_i hd hhd
          split at h
          · cases h
          · rename_i vs H hn
            have key : SpK P fn E (.scope b) ⟨mkT hd.keep vs, H⟩ k r := by
              split at h
              · rename_i e he
                exact hcut (.scope b) (by simp [subLoops]) e hd he hhd R vs H k r h
              · exact fun S a w hnb hI => wp_scope_passes E.N (evScope_ok (f := fun c s k => evCode E d c s k) (body := b) (fun c hc => ih c (fun x hx => hcut x (by simp [subLoops, hc x hx]))) E.N b vs H k r (fun _ hx => hx) h S a w hnb hI)
            exact key S a w hnb (norm_ok hn hI)

/-- What a function does, where what it tells hangs on the world: all of it is told alike by k. -/
structure FnSpecK (P : Program) (f : Nat) (args : List V) (bs : List Blk) {R : Type} (k : V → List Blk → Option R) (r : R) : Prop where
  callable : Callable P f
  calls : ∀ F ρ w args', HeapRel F ρ (blkAt bs) w → (∀ id, bs.length ≤ id → ρ id = none) → RelL ρ (av F (liveM ρ (blkAt bs))) w args args' →
    Calls P f args'.toArray w fun e w' => ∃ v bs' v', k v bs' = some r ∧ e = .returned v' ∧ FnPost F ρ bs w v bs' v' w'

theorem FnSpecK.of {f : Nat} {args : List V} {bs : List Blk} {R : Type} {k : V → List Blk → Option R} {r : R} (h : FnSpecK P f args bs k r) {v0 : V} {bs0 : List Blk} (hk : ∀ v bs', k v bs' = some r → v = v0 ∧ bs' = bs0) : FnSpec P f args bs v0 bs0 :=
  ⟨h.callable, fun F ρ w args' hH hn hr => (h.calls F ρ w args' hH hn hr).mono fun e w' ⟨v, bs', v', h1, h2, h3⟩ => by
    obtain ⟨rfl, rfl⟩ := hk v bs' h1
    exact ⟨v', h2, h3⟩⟩

/-- A function's body as the evaluator goes through it: its law. -/
theorem evFun_ok (hE : EnvOK P E) (hmix : P.follows .mixedOrders = true) {f : Nat} {body : Code} (hf : P.funcs[f]? = some fn) (hb : fn.body = some body) (hname : (fn.name == "runtime.NumGoroutine") = false) (hres : E.res = fn.results.toList) (hnt : E.ntmps = fn.ntmps)
    {args : List V} {bs : List Blk} (hnb : E.nb = bs.length) (hargs : args.length ≤ fn.ntmps) (hcut : ∀ b ∈ subLoops body, CutOK P fn E b) {R : Type} {k : V → List Blk → Option R} {r : R} (h : evFun E body args bs k = some r) :
    FnSpecK P f args bs k r := by
  refine ⟨⟨fn, hf, by rw [hb]; rfl, hname⟩, ?_⟩
  intro F ρ w args' hH hn hr
  refine calls_of_wp hf hb ?_
  unfold evFun at h
  have hlen := hr.length
  have hI : Inv E ⟨F, ρ, bs, w⟩ ⟨mkArgs 0 args, bs⟩ { tmps := args'.toArray ++ Array.replicate (fn.ntmps - args'.toArray.size) undef, defers := [] } w := by
    refine ⟨ρ, ⟨hH, fun t => ?_, ?_, rfl⟩, hn, fun _ _ => rfl, by dsimp only; omega, Ext.refl _ _⟩
    · have := look_mkArgs args args' 0 t ρ _ w undef hr
      have e : (if 0 ≤ t ∧ t < 0 + args'.length then args'.getD (t - 0) undef else undef) = Act.eval { tmps := args'.toArray ++ Array.replicate (fn.ntmps - args'.toArray.size) undef, defers := [] } (.tmp t) := by
        simp only [Act.eval, Array.getD_eq_getD_getElem?, Array.getElem?_append, List.size_toArray, List.getElem?_toArray, Array.getElem?_replicate]
        by_cases ht : t < args'.length
        · rw [if_pos (by omega), if_pos ht]; simp [List.getD_eq_getElem?_getD]
        · rw [if_neg (by omega), if_neg ht]; split <;> rfl
      rw [← e]; exact this
    · simp only [Array.size_append, List.size_toArray, Array.size_replicate, hnt]; omega
  refine wp_mono (evCode_ok hE hmix hres depth body hcut R _ _ _ h ⟨F, ρ, bs, w⟩ _ w hnb hI) ?_
  rintro x a' w' ⟨ex, s', h1, hx⟩
  cases ex with
  | normal =>
    obtain ⟨rfl, hI'⟩ := hx
    dsimp only at h1
    split at h1
    · rename_i v bs' hf
      obtain ⟨hd, u, hu, hp⟩ := fin_ok hE.ty hres hnb hf hI'
      exact ⟨hd, u, hu, v, bs', u, h1, rfl, hp⟩
    · cases h1
  | ret v bs' =>
    obtain ⟨rfl, hd, u, hu, hp⟩ := hx
    exact ⟨hd, u, hu, v, bs', u, h1, rfl, hp⟩
  | exit i => cases h1
  | goto l => cases h1

/-- Arguments told in another form. -/
theorem FnSpec.of_freeze {f : Nat} {ss : List Sh} {args args2 : List V} {v : V} {bs' : List Blk} (hz : freezeL 0 (fun _ => .dead) ss args = some args2) (h : FnSpec P f args2 [] v bs') : FnSpec P f args [] v bs' := by
  refine ⟨h.callable, fun F ρ w args' hH hn hr => h.calls F ρ w args' hH hn ?_⟩
  have hd : blkAt [] = fun _ => Blk.dead := by funext j; rfl
  rw [hd] at hH hr ⊢
  exact freezeL_ok hH (fun i hi => by omega) (fun b hb => hb) (fun b hb => by obtain ⟨_, _, _, _, hl⟩ := hb; exact hl.elim) ss args args2 args' hz hr

end
end Go.Proofs.Ytlofhdoefjmabaa.Ev

/-
  The evaluator's theorems in the form in which a function's printed text calls them. (A text of ours; no condition.)
-/
namespace Go.Proofs.Ytlofhdoefjmabaa.Ev
set_option linter.unusedVariables false

theorem tyok_of {P : Program} {t : Nat} {ti : TI} (hi : (P.info? t).isSome = true) (hs : ((P.info? t).getD default).size = ti.size) (hb : ((P.info? t).getD default).bytes = ti.bytes) (hz : ((P.info? t).getD default).zero.isSome = true)
    (hc : (((P.info? t).getD default).zero.getD undef).cells.toList = ti.zero) (hl : ti.zero.length = ti.size) (ho : (ti.isAgg || Nat.beq ti.size 1) = true) (hk : tkOK P t ti.tk) (he : (!ti.isAgg || (!P.stoodInHeld t && !P.eqGuardType P.depth t)) = true) : TyOK1 P t ti := by
  cases h : P.info? t with
  | none => rw [h] at hi; cases hi
  | some i =>
    rw [h] at hs hb hz hc
    simp only [Option.getD_some] at hs hb hz hc
    cases h2 : i.zero with
    | none => rw [h2] at hz; cases hz
    | some z =>
      rw [h2] at hc
      simp only [Option.getD_some] at hc
      refine ⟨⟨i, h, hs, hb, z, h2, hc⟩, hl, fun ha => ?_, hk, fun ha => ?_⟩
      · rw [ha] at ho; exact beq_eq ho
      · rw [ha] at he
        simpa using he

theorem tk_struct {P : Program} {t : Nat} {fields : Array Field} {fs : List (Nat × Nat)} (h1 : P.underlying t = some (.struct fields)) (h2 : fields.toList.map (fun f => (f.type, f.offset)) = fs) (h3 : fields.toList.all (fun f => !(f.name == "_")) = true) : tkOK P t (.struct fs) :=
  ⟨fields, h1, h2, fun f hf => by
    rw [List.all_eq_true] at h3
    have := h3 f hf
    simpa using this⟩

def mapZero (P : Program) (e : Nat) : Bool := match P.info? e with
  | some i => (match i.zero with | some z => plainV z | none => false)
  | none => false
theorem tk_map {P : Program} {t k e : Nat} (h1 : P.underlying t = some (.map k e)) (h2 : mapZero P e = true) : tkOK P t (.map k e) := by
  unfold mapZero at h2
  split at h2
  · rename_i i hi
    split at h2
    · rename_i z hz
      exact ⟨h1, i, z, hi, hz, h2⟩
    · cases h2
  · cases h2

theorem TyOK.nil {P : Program} : TyOK P (lookN []) := fun _ _ h => by cases h
theorem TyOK.cons {P : Program} {t : Nat} {ti : TI} {l : List (Nat × TI)} (h : TyOK1 P t ti) (r : TyOK P (lookN l)) : TyOK P (lookN ((t, ti) :: l)) := by
  intro t' ti' ht
  simp only [lookN] at ht
  cases hb : Nat.beq t t' <;> rw [hb] at ht <;> simp only [cond_true, cond_false] at ht
  · exact r t' ti' ht
  · have := beq_eq hb; subst this
    simp only [Option.some.injEq] at ht; subst ht; exact h

def TabOK1 (P : Program) (f : Nat) (e : Entry) : Prop := ∀ args bs a enc, e.dec args bs = some (some a, enc) → FnSpec P f args bs (enc a).pick.1 (enc a).pick.2
theorem TabOK.nil {P : Program} : TabOK P (lookN []) := fun _ _ h => by cases h
theorem TabOK.cons {P : Program} {f : Nat} {e : Entry} {l : List (Nat × Entry)} (h : TabOK1 P f e) (r : TabOK P (lookN l)) : TabOK P (lookN ((f, e) :: l)) := by
  intro f' e' ht
  simp only [lookN] at ht
  cases hb : Nat.beq f f' <;> rw [hb] at ht <;> simp only [cond_true, cond_false] at ht
  · exact r f' e' ht
  · have := beq_eq hb; subst this
    simp only [Option.some.injEq] at ht; subst ht; exact h

def AllCut (P : Program) (fn : Func) (E : Env) (l : List Code) : Prop := ∀ b ∈ l, CutOK P fn E b
theorem AllCut.nil {P : Program} {fn : Func} {E : Env} : AllCut P fn E [] := fun _ h => by cases h
theorem AllCut.cons {P : Program} {fn : Func} {E : Env} {c : Code} {l : List Code} (h : CutOK P fn E c) (r : AllCut P fn E l) : AllCut P fn E (c :: l) := fun b hb => by
  rcases List.mem_cons.mp hb with rfl | hb
  · exact h
  · exact r b hb
theorem AllCut.of {P : Program} {fn : Func} {E : Env} {l l' : List Code} (he : l' = l) (h : AllCut P fn E l) : AllCut P fn E l' := he ▸ h
theorem cut_scope {P : Program} {fn : Func} {E : Env} {b : Code} (h : (E.cut (1000000 + loopKey b)).isNone = true) : CutOK P fn E (.scope b) := fun e hd he => by rw [he] at h; cases h
theorem cut_loop {P : Program} {fn : Func} {E : Env} {b : Code} (h : (E.cut (loopKey b)).isNone = true) : CutOK P fn E (.loop b) := fun e hd he => by rw [he] at h; cases h

/- A whole row taken for a part of one. -/
def asSl (h : Nat → Blk) : V → V
  | .sw id s => (match h id with
    | .ints _ l => .sl id s 0 (cnt s l.length)
    | _ => .sw id s)
  | v => v
def asSlL (h : Nat → Blk) : List Bool → List V → List V
  | true :: bs, v :: r => asSl h v :: asSlL h bs r
  | false :: bs, v :: r => v :: asSlL h bs r
  | _, vs => vs

theorem asSl_ok {F : Nat → Prop} {ρ : Rho} {h : Nat → Blk} {w : World} (hh : HeapRel F ρ h w) {v : V} {u : Value} (hr : Rel ρ (av F (liveM ρ h)) w v u) : Rel ρ (av F (liveM ρ h)) w (asSl h v) u := by
  unfold asSl
  split
  · rename_i id s
    split
    · rename_i k l hid
      obtain ⟨h0, ⟨b, n, C, cap, c, h1, h2, h3, h4, h5, ho, hsz, hold⟩ | ⟨h1, h2, hk⟩⟩ := sw_cells hh hr (by rw [hid]; trivial) (by rw [hid]; trivial)
      · rw [hid] at hold
        obtain ⟨e1, e2, e3⟩ := hold
        simp only [Rel]
        have hn : n / s * s = n := Nat.div_mul_cancel (Nat.dvd_of_mod_eq_zero h2)
        refine ⟨h0, .inl ⟨b, n, C, cap, h1, ?_, ?_, by omega, ?_⟩⟩
        · rw [cnt_eq, e1]; omega
        · rw [cnt_eq, e1]; exact h3
        · rw [cnt_eq, e1]; exact h5
      · rw [hid] at hk
        rcases hk with ⟨k2, hk⟩ | hk | ⟨_, _, hk⟩ <;> cases hk
        simp only [Rel]
        exact ⟨h0, .inr ⟨by rw [cnt_eq]; simp, none, h2⟩⟩
    · exact hr
  · exact hr

theorem asSlL_ok {F : Nat → Prop} {ρ : Rho} {h : Nat → Blk} {w : World} (hh : HeapRel F ρ h w) : ∀ (bs : List Bool) (vs : List V) (us : List Value), RelL ρ (av F (liveM ρ h)) w vs us → RelL ρ (av F (liveM ρ h)) w (asSlL h bs vs) us
  | true :: bs, v :: r, [], hr => by simp only [RelL] at hr
  | true :: bs, v :: r, u :: us, hr => by
    simp only [RelL, asSlL] at hr ⊢
    exact ⟨asSl_ok hh hr.1, asSlL_ok hh bs r us hr.2⟩
  | false :: bs, v :: r, [], hr => by simp only [RelL] at hr
  | false :: bs, v :: r, u :: us, hr => by
    simp only [RelL, asSlL] at hr ⊢
    exact ⟨hr.1, asSlL_ok hh bs r us hr.2⟩
  | [], vs, us, hr => by simpa only [asSlL] using hr
  | _ :: _, [], us, hr => by simpa only [asSlL] using hr

theorem FnSpec.of_asSl {P : Program} {f : Nat} {fl : List Bool} {args : List V} {bs : List Blk} {v : V} {bs' : List Blk} (h : FnSpec P f (asSlL (blkAt bs) fl args) bs v bs') : FnSpec P f args bs v bs' :=
  ⟨h.callable, fun F ρ w args' hH hn hr => h.calls F ρ w args' hH hn (asSlL_ok hH fl args args' hr)⟩

theorem FnPost.kill {F : Nat → Prop} {ρ : Rho} {bs : List Blk} {w : World} {v : V} {bs' : List Blk} {v' : Value} {w' : World} (h : FnPost F ρ bs w v bs' v' w') : FnPost F ρ bs w v (List.replicate bs'.length .dead) v' w' := by
  obtain ⟨ρ', h1, h2, h3, h4, h5⟩ := h
  have hd : ∀ id, ¬ (blkAt (List.replicate bs'.length Blk.dead) id).live := fun id hl => by
    rw [blkAt_getD, List.getD_eq_getElem?_getD, List.getElem?_replicate] at hl
    split at hl <;> exact hl
  have hM : ∀ b, liveM ρ' (blkAt (List.replicate bs'.length Blk.dead)) b → liveM ρ' (blkAt bs') b := by
    rintro b ⟨id, n, C, _, hl⟩
    exact absurd hl (hd id)
  exact ⟨ρ', h1, fun id hid => h2 id (by simpa using hid), ⟨h3.wf, fun id hl => absurd hl (hd id), fun i j b n C n' C' hi => absurd hi (hd i), h3.low, fun b hb => h3.out b (hM b hb)⟩, Rel.avoid (fun b hb => hb.imp id (hM b)) _ _ h4, ⟨h5.size, h5.same, fun b hb => h5.sub b (hM b hb), h5.keeps⟩⟩

/-- What was handed in is looked at no more. -/
theorem FnSpecK.ofKill {P : Program} {f : Nat} {args : List V} {bs : List Blk} {R : Type} {k : V → List Blk → Option R} {r : R} (h : FnSpecK P f args bs k r) {v0 : V} {n : Nat} (hk : ∀ v bs', k v bs' = some r → v = v0 ∧ bs'.length = n) : FnSpec P f args bs v0 (List.replicate n .dead) :=
  ⟨h.callable, fun F ρ w args' hH hn hr => (h.calls F ρ w args' hH hn hr).mono fun e w' ⟨v, bs', v', h1, h2, h3⟩ => by
    obtain ⟨rfl, rfl⟩ := hk v bs' h1
    exact ⟨v', h2, h3.kill⟩⟩

/-- A scope with jumps, gone through. -/
theorem scope_ok {P : Program} {fn : Func} {E : Env} (hE : EnvOK P E) (hmix : P.follows .mixedOrders = true) (hres : E.res = fn.results.toList) {d : Nat} {b : Code} {hd : Hint} (hcut : AllCut P fn E (subLoops b)) {R : Type} {n : Nat} {vs : List V} {H : List Blk} {k : Ex → St → Option R} {r : R}
    (h : evScope E.nb hd (fun c s k => evCode E d c s k) b n b vs H k = some r) : SpK P fn E (.scope b) ⟨mkT hd.keep vs, H⟩ k r :=
  fun S a w hnb hI => wp_scope_passes n (evScope_ok (f := fun c s k => evCode E d c s k) (body := b) (fun c hc => evCode_ok hE hmix hres d c (fun x hx => hcut x (hc x hx))) n b vs H k r (fun _ hx => hx) h S a w hnb hI)

/- Shorter printed texts. -/
theorem cutL {P : Program} {fn : Func} {E : Env} (hE : EnvOK P E) (hmix : P.follows .mixedOrders = true) (d : Nat) {b : Code} {c : Cut} {h : Hint} (hcut : AllCut P fn E (subLoops b))
    (H : ∀ (R : Type) vs Hh (k : Ex → St → Option R) r, c.run vs Hh k = some r → ∃ n, evLoop E.nb h (fun s k => evCode E d b s k) n vs Hh k = some r) (e1 : E.cut (loopKey b) = some c := by kernel_rfl) (e2 : E.hint (loopKey b) = some h := by kernel_rfl) (hres : E.res = fn.results.toList := by kernel_rfl) : CutOK P fn E (.loop b) := fun e hd he hh R vs Hh k r hr => by
  rw [e1] at he; rw [e2] at hh; cases he; cases hh
  obtain ⟨n, hn⟩ := H R vs Hh k r hr
  exact loop_ok (evCode_ok hE hmix hres d b hcut) hn

def bo (f : Func) : Code := f.body.getD .skip
theorem evSpec {P : Program} {E : Env} {fn : Func} {n : Nat} {A : Type} (hE : EnvOK P E) (hmix : P.follows .mixedOrders = true) (hf : P.funcs[n]? = some fn) (hcut : AllCut P fn E (subLoops (bo fn))) {args : List V} {bs : List Blk} {dec : V → List Blk → Option A} {r : A}
    (h : evFun E (bo fn) args bs dec = some r) {v0 : V} {b0 : List Blk} (hd : ∀ v bs', dec v bs' = some r → v = v0 ∧ bs' = b0) (h1 : fn.body = some (bo fn) := by kernel_rfl) (h2 : (fn.name == "runtime.NumGoroutine") = false := by kernel_rfl) (h3 : E.ntmps = fn.ntmps := by kernel_rfl) (h4 : E.nb = bs.length := by kernel_rfl)
    (h5 : Nat.ble args.length fn.ntmps = true := by kernel_rfl) (hres : E.res = fn.results.toList := by kernel_rfl) : FnSpec P n args bs v0 b0 :=
  (evFun_ok hE hmix hf h1 h2 hres h3 h4 (Nat.le_of_ble_eq_true h5) hcut h).of hd

/-- A function's row in the table, whose arguments are frozen. -/
def mkF (A : Type) (fresh : Nat) (imm : List Bool) (ss : List Sh) (sel : List V → Option (Option A × (A → Alt))) : Entry :=
  { A := A, fresh := fresh, imm := imm, dec := fun args bs => match freezeL 0 (fun _ => .dead) ss args, bs with
    | some a, [] => sel a
    | _, _ => none }
theorem mkF_ok {P : Program} {f : Nat} {A : Type} {fresh : Nat} {imm : List Bool} {ss : List Sh} {sel : List V → Option (Option A × (A → Alt))} (H : ∀ args a enc, sel args = some (some a, enc) → FnSpec P f args [] (enc a).pick.1 (enc a).pick.2) : TabOK1 P f (mkF A fresh imm ss sel) := by
  intro args bs a enc h
  simp only [mkF] at h
  split at h
  · rename_i hz; exact FnSpec.of_freeze hz (H _ _ _ h)
  · cases h
theorem entF {A : Type} {x : Option A} {g enc : A → Alt} {a : A} {Q : (A → Alt) → Prop} (h : some (x, g) = some (some a, enc)) (H : x = some a → Q g) : Q enc := by
  have h0 := Option.some.inj h
  have h1 := congrArg Prod.fst h0
  have h2 := congrArg Prod.snd h0
  dsimp only at h1 h2
  subst h2
  exact H h1

def mkE (ty : List (Nat × TI)) (tab : List (Nat × Entry)) (hint : List (Nat × Hint)) (cut : List (Nat × Cut)) (N : Nat) (res : List ResultVar) (rsh : List Sh) (nb ntmps : Nat) (own : Bool := false) (bsh : List (Nat × List Sh) := []) : Env :=
  { ty := lookN ty, tab := lookN tab, hint := lookN hint, cut := lookN cut, N := N, res := res, rsh := rsh, nb := nb, ntmps := ntmps, own := own, bsh := bsh }

theorem AllCut.n {P : Program} {fn : Func} {E : Env} {l : List Code} (h : l = [] := by kernel_rfl) : AllCut P fn E l := AllCut.of h AllCut.nil

end Go.Proofs.Ytlofhdoefjmabaa.Ev

/-
  slices.SortFunc at rows of three whole numbers, over the kit's contract, as a law of the evaluator's. (A text of ours; no condition.)
-/
namespace Go.Proofs.Ytlofhdoefjmabaa.Ev
open Go.Shelf Go.RowKit Go.Lib Go.Sort
set_option linter.unusedVariables false
set_option linter.unusedSimpArgs false

abbrev R3 := Int × Int × Int
def le3 (x y : R3) : Bool := decide (x.1 < y.1) || (x.1 == y.1 && (decide (x.2.1 < y.2.1) || (x.2.1 == y.2.1 && decide (x.2.2 ≤ y.2.2))))
def cmp3 (x y : R3) : Int :=
  if x.1 < y.1 then -1 else if y.1 < x.1 then 1 else
  if x.2.1 < y.2.1 then -1 else if y.2.1 < x.2.1 then 1 else
  if x.2.2 < y.2.2 then -1 else if y.2.2 < x.2.2 then 1 else 0
def ins3 (x : R3) : List R3 → List R3
  | [] => [x]
  | y :: r => bif le3 x y then x :: y :: r else y :: ins3 x r
def srt3 : List R3 → List R3
  | [] => []
  | x :: r => ins3 x (srt3 r)
def rows3 : List Int → List R3
  | a :: b :: c :: r => (a, b, c) :: rows3 r
  | _ => []
def flat3 : List R3 → List Int
  | [] => []
  | x :: r => x.1 :: x.2.1 :: x.2.2 :: flat3 r
def sort3 (l : List Int) : List Int := flat3 (srt3 (rows3 l))

theorem le3_iff (x y : R3) : le3 x y = true ↔ (x.1 < y.1 ∨ x.1 = y.1 ∧ (x.2.1 < y.2.1 ∨ x.2.1 = y.2.1 ∧ x.2.2 ≤ y.2.2)) := by
  simp [le3]
theorem le3_total (x y : R3) : le3 x y = true ∨ le3 y x = true := by
  rw [le3_iff, le3_iff]; omega
theorem le3_trans {x y z : R3} (h : le3 x y = true) (k : le3 y z = true) : le3 x z = true := by
  rw [le3_iff] at *; omega
theorem le3_anti {x y : R3} (h : le3 x y = true) (k : le3 y x = true) : x = y := by
  rw [le3_iff] at *
  exact Prod.ext (by omega) (Prod.ext (by omega) (by omega))
theorem cmp3_lt (x y : R3) : ltOf cmp3 x y = !(le3 y x) := by
  unfold ltOf cmp3
  rw [Bool.eq_iff_iff]
  simp only [decide_eq_true_eq, Bool.not_eq_true', ← Bool.not_eq_true, le3_iff]
  repeat' split
  all_goals omega
theorem ins3_perm (x : R3) : ∀ l, (ins3 x l).Perm (x :: l)
  | [] => .refl _
  | y :: r => by
    unfold ins3
    cases le3 x y
    · exact ((ins3_perm x r).cons y).trans (.swap _ _ _)
    · exact .refl _
theorem srt3_perm : ∀ l, (srt3 l).Perm l
  | [] => .refl _
  | x :: r => (ins3_perm x _).trans ((srt3_perm r).cons x)
theorem ins3_sorted (x : R3) : ∀ l, l.Pairwise (fun a b => le3 a b = true) → (ins3 x l).Pairwise (fun a b => le3 a b = true)
  | [], _ => by simp [ins3]
  | y :: r, h => by
    obtain ⟨h1, h2⟩ := List.pairwise_cons.mp h
    unfold ins3
    cases hxy : le3 x y
    · refine List.pairwise_cons.mpr ⟨fun z hz => ?_, ins3_sorted x r h2⟩
      rcases List.mem_cons.mp ((ins3_perm x r).mem_iff.mp hz) with rfl | hz
      · exact (le3_total z y).resolve_left (by rw [hxy]; simp)
      · exact h1 z hz
    · refine List.pairwise_cons.mpr ⟨fun z hz => ?_, h⟩
      rcases List.mem_cons.mp hz with rfl | hz
      · exact hxy
      · exact le3_trans hxy (h1 z hz)
theorem srt3_sorted : ∀ l, (srt3 l).Pairwise (fun a b => le3 a b = true)
  | [] => .nil
  | x :: r => ins3_sorted x _ (srt3_sorted r)
/-- One sorted row of what stands in a row. -/
theorem srt3_unique {l m : List R3} (h : l.Perm m) (hs : l.Pairwise (fun a b => le3 a b = true)) : l = srt3 m :=
  List.Perm.eq_of_pairwise (le := fun a b => le3 a b = true) (fun a b _ _ h1 h2 => le3_anti h1 h2) hs (srt3_sorted m) (h.trans (srt3_perm m).symm)
theorem srt3_congr {l m : List R3} (h : l.Perm m) : srt3 l = srt3 m := srt3_unique ((srt3_perm l).trans h) (srt3_sorted l)
theorem sorted_eq (d : List R3) : (d.mergeSort fun x y => !(ltOf cmp3) y x) = srt3 d := by
  have e : (fun x y => !(ltOf cmp3) y x) = le3 := by funext x y; rw [cmp3_lt]; simp
  rw [e]
  exact srt3_unique (List.mergeSort_perm d le3) (List.pairwise_mergeSort (le := le3) (fun a b c h k => le3_trans h k) (fun a b => by simpa using le3_total a b) d)
theorem swo3 : SWO (ltOf cmp3) where
  irrefl x := by rw [cmp3_lt, Bool.not_eq_false', le3_iff]; omega
  trans x y z h1 h2 := by rw [cmp3_lt, Bool.not_eq_true', ← Bool.not_eq_true, le3_iff] at *; omega
  ntrans x y z h1 h2 := by rw [cmp3_lt, Bool.not_eq_false', le3_iff] at *; omega
theorem tot3 (x y : R3) (h : (ltOf cmp3) x y = false) (k : (ltOf cmp3) y x = false) : x = y := by
  rw [cmp3_lt, Bool.not_eq_false'] at *
  exact le3_anti k h

theorem flat_rows3 : ∀ l : List Int, l.length % 3 = 0 → flat3 (rows3 l) = l
  | [], _ => rfl
  | [_], h => by simp at h
  | [_, _], h => by simp at h
  | a :: b :: c :: r, h => by
    have h' : r.length % 3 = 0 := by simp only [List.length_cons] at h; omega
    simp only [rows3, flat3]; rw [flat_rows3 r h']
theorem rows_flat3 : ∀ l : List R3, rows3 (flat3 l) = l
  | [] => rfl
  | x :: r => by simp only [rows3, flat3, rows_flat3 r]
theorem flat3_length : ∀ l : List R3, (flat3 l).length = l.length * 3
  | [] => rfl
  | x :: r => by simp only [flat3, List.length_cons, flat3_length r]; omega
theorem srt3_length (l : List R3) : (srt3 l).length = l.length := (srt3_perm l).length_eq
theorem rows3_length : ∀ l : List Int, (rows3 l).length = l.length / 3
  | [] => rfl
  | [_] => by simp [rows3]
  | [_, _] => by simp [rows3]
  | a :: b :: c :: r => by simp only [rows3, List.length_cons, rows3_length r]; omega
theorem sort3_length {l : List Int} (h : l.length % 3 = 0) : (sort3 l).length = l.length := by
  unfold sort3
  rw [flat3_length, srt3_length, rows3_length]; omega
theorem flat3_append : ∀ a b : List R3, flat3 (a ++ b) = flat3 a ++ flat3 b
  | [], _ => rfl
  | x :: r, b => by simp only [List.cons_append, flat3, flat3_append r b]

def enc3 (x : R3) : List Value := [.int .i64 x.1, .int .i64 x.2.1, .int .i64 x.2.2]

theorem flat3_get : ∀ (d : List R3) (t : Nat), t < d.length * 3 → (flat3 d)[t]? = match t % 3 with | 0 => d[t / 3]?.map (·.1) | 1 => d[t / 3]?.map (·.2.1) | _ => d[t / 3]?.map (·.2.2)
  | [], t, h => by simp at h
  | x :: r, 0, _ => rfl
  | x :: r, 1, _ => rfl
  | x :: r, 2, _ => rfl
  | x :: r, t + 3, h => by
    have h3 : (t + 3) % 3 = t % 3 := by omega
    have h4 : (t + 3) / 3 = t / 3 + 1 := by omega
    have ih := flat3_get r t (by simp at h; omega)
    simp only [flat3, List.getElem?_cons_succ]
    rw [ih, h3, h4]
    simp only [List.getElem?_cons_succ]

theorem flatK3 (d : List R3) (t : Nat) (h : t < d.length * 3) : (flatK enc3 3 d.toArray)[t]! = .int .i64 ((flat3 d).getD t 0) := by
  rw [get_flatK _ _ _ _ (by simpa using h), List.getD_eq_getElem?_getD, flat3_get d t h]
  have hlt : t / 3 < d.length := by omega
  have hm : t % 3 = 0 ∨ t % 3 = 1 ∨ t % 3 = 2 := by omega
  simp only [List.getElem?_eq_getElem hlt, Option.map_some]
  have hd : d.toArray[t / 3]! = d[t / 3] := by
    rw [getElem!_pos d.toArray (t / 3) (by simpa using hlt)]; simp
  rw [hd]
  rcases hm with h0 | h0 | h0 <;> rw [h0] <;> simp [enc3]

section
variable {P : Program} {F : Nat → Prop} {ρ : Rho} {h : Nat → Blk} {w : World}

/-- New blocks behind. -/
theorem HeapRel.grow (hh : HeapRel F ρ h w) (os : Array Obj) : HeapRel F ρ h (Go.Sort.grow w os) ∧ Ext (liveM ρ h) w (liveM ρ h) (Go.Sort.grow w os) := by
  have hext : Ext (liveM ρ h) w (liveM ρ h) (Go.Sort.grow w os) := by
    refine ⟨by simp [Go.Sort.grow], fun b hb _ => ?_, fun b hb => .inl hb, ⟨rfl, rfl, rfl, Nat.le_refl _⟩⟩
    simp only [Go.Sort.grow]
    rw [Array.getElem?_append_left hb]
  refine ⟨⟨hh.wf, fun id hl => ?_, hh.inj, hh.low' hext, hh.out⟩, hext⟩
  obtain ⟨p, hp, hb⟩ := hh.rel id hl
  refine ⟨p, hp, BlkRel.mono (Sub.refl _) hext hb ?_⟩
  intro b hb'
  obtain ⟨pb, pn, pC⟩ := p
  dsimp only at hb'
  subst hb'
  have hlt := liveM.lt hh ⟨id, pn, pC, hp, hl⟩
  simp only [Go.Sort.grow]
  rw [Array.getElem?_append_left hlt]

/-- A function that only adds to the world, as the sort asks of 'cmp'. -/
theorem cmpLays_of {g : Nat} (hs : ∀ x y : R3, FnSpec P g [.agg [.c (.int .i64 x.1), .c (.int .i64 x.2.1), .c (.int .i64 x.2.2)], .agg [.c (.int .i64 y.1), .c (.int .i64 y.2.1), .c (.int .i64 y.2.2)]] [] (.c (.int .i64 (cmp3 x y))) []) (blk off size : Nat) (w : World) :
    CmpLays P g #[] enc3 3 cmp3 blk off size w := by
  intro m os dk hsz x y
  generalize sortWorldK enc3 3 w blk off m dk os = W
  have h0 : HeapRel (fun _ => False) (fun _ => none) (blkAt []) W := ⟨fun _ _ hx => (by cases hx), fun id hl => (by simp [blkAt, Blk.live] at hl), fun i j b n C n' C' hi => (by simp [blkAt, Blk.live] at hi), fun _ hb => hb.elim, fun _ _ hb => hb.elim⟩
  have hc := (hs x y).calls (fun _ => False) (fun _ => none) W [.agg (enc3 x).toArray, .agg (enc3 y).toArray] h0 (fun _ _ => rfl) (by
    simp only [RelL, and_true]
    refine ⟨?_, ?_⟩ <;> (simp only [Rel]; refine ⟨_, rfl, ?_⟩; simp [enc3, RelL, Rel]))
  refine Calls.mono (by simpa using hc) ?_
  rintro e w' ⟨v', rfl, ρ', _, _, hH, hv, hext⟩
  have := hv.c
  subst this
  refine ⟨rfl, w'.drawn - W.drawn, w'.heap.extract W.heap.size w'.heap.size, ?_⟩
  have hk := hext.keeps
  have hheap : w'.heap = W.heap ++ w'.heap.extract W.heap.size w'.heap.size := by
    apply Array.ext_getElem?
    intro i
    by_cases hi : i < W.heap.size
    · rw [Array.getElem?_append_left hi]
      exact hext.same i hi (fun ⟨id, n, C, h1, _⟩ => by cases h1)
    · rw [Array.getElem?_append_right (by omega)]
      have hsz := hext.size
      simp only [Array.getElem?_extract]
      by_cases h2 : i < w'.heap.size
      · rw [if_pos (by omega)]; congr 1; omega
      · rw [if_neg (by omega), Array.getElem?_eq_none (by omega)]
  have hd := hk.drawn
  obtain ⟨hp', t', d', o', u'⟩ := w'
  obtain ⟨hp, t, d0, o, u⟩ := W
  obtain ⟨k1, k2, k3, k4⟩ := hk
  simp only at k1 k2 k3 k4 hheap hd ⊢
  subst k1 k2 k3
  simp only [Go.Sort.grow, World.drewN, World.mk.injEq, true_and, and_true]
  exact ⟨hheap, by omega⟩

theorem putCells_get (d : List R3) (c : Array Value) (i : Nat) : (putCells id 0 (flatK enc3 3 d.toArray) c)[i]? = if i < d.length * 3 then c[i]?.map (fun _ => .int .i64 ((flat3 d).getD i 0)) else c[i]? := by
  simp only [putCells, Array.getElem?_mapIdx, size_flatK, List.size_toArray, Nat.zero_le, true_and, Nat.zero_add, Nat.sub_zero, id_eq]
  by_cases hi : i < d.length * 3
  · simp only [hi, if_true]
    rw [flatK3 d i hi]
  · simp only [hi, if_false]
    cases c[i]? <;> rfl

/-- slices.SortFunc of rows of three whole numbers, by a, then b, then c. -/
theorem sort_spec {R : Ren} (L : SlLaysF0.n6 P R) (aE : ∀ w, (isAgg (R.t 24)).run P w = .ok true w) (zE : ∀ w, (Go.sizeOf (R.t 24)).run P w = .ok 3 w) (hcall : Callable P (R.f 6)) {g : Nat} (eg : ∀ args w, (callFunc g args).run P w = .ok (.enter g args) w)
    (hs : ∀ x y : R3, FnSpec P g [.agg [.c (.int .i64 x.1), .c (.int .i64 x.2.1), .c (.int .i64 x.2.2)], .agg [.c (.int .i64 y.1), .c (.int .i64 y.2.1), .c (.int .i64 y.2.2)]] [] (.c (.int .i64 (cmp3 x y))) []) (l : List Int) (hsz : l.length < 4611686018427387904) :
    FnSpec P (R.f 6) [.sw 0 3, .fn g [] []] [.ints .i64 l] (.c (.tuple #[])) [.ints .i64 (sort3 l)] := by
  refine ⟨hcall, ?_⟩
  intro F ρ w args' hH hn hr
  obtain ⟨v0, v1, rfl⟩ : ∃ a b, args' = [a, b] := by
    have := hr.length
    simp at this
    match args', this with
    | [a, b], _ => exact ⟨a, b, rfl⟩
  simp only [RelL, and_true] at hr
  obtain ⟨hr0, hr1⟩ := hr
  have hf : v1 = .func (.func g) #[] #[] := by
    simp only [Rel] at hr1
    obtain ⟨va, vc, rfl, ha, hc⟩ := hr1
    have ha := ha.length
    have hc := hc.length
    simp at ha hc
    rw [show va = #[] from Array.eq_empty_of_size_eq_zero (by simpa using ha.symm), show vc = #[] from Array.eq_empty_of_size_eq_zero (by simpa using hc.symm)]
  subst hf
  have hl0 : (blkAt [Blk.ints .i64 l] 0).live := trivial
  have hb0 : blkAt [Blk.ints .i64 l] 0 = .ints .i64 l := rfl
  have hset : ∀ x, setH (blkAt [Blk.ints .i64 l]) 0 x = blkAt [x] := by
    intro x; funext j
    cases j <;> simp [setH, blkAt]
  obtain ⟨_, ⟨b, n, C, cap, c, h1, h2, h3, h4, h5, ho, hszc, hold⟩ | ⟨h1, h2, hk⟩⟩ := sw_cells hH hr0 hl0 trivial
  · subst h5
    rw [hb0] at hold
    obtain ⟨k1, k2, k3⟩ := hold
    have hmod : l.length % 3 = 0 := by rw [k1]; exact h2
    obtain ⟨e, fr, g1, g2, g3⟩ := ho
    have hblt : b < w.heap.size := (Array.getElem?_eq_some_iff.mp g1).1
    have hfl := flat_rows3 l hmod
    have hdl : (rows3 l).length * 3 = n := by rw [rows3_length, ← k1]; omega
    have hH3 : HoldsK enc3 3 w b 0 (rows3 l).toArray := by
      intro j hj
      rw [size_flatK] at hj
      have hj' : j < (rows3 l).length * 3 := by simpa using hj
      have hjl : j < l.length := by omega
      rw [flatK3 _ _ hj', hfl]
      have hc := k3 j hjl
      refine ⟨by simp [World.cell?, g1, hc], ?_⟩
      simp only [World.frozen?, g1, Nat.zero_add]
      have := g3 j (by omega)
      simp only [Bool.and_eq_false_iff, decide_eq_false_iff_not]
      omega
    have hsize : (rows3 l).toArray.size = n / 3 := by simp; omega
    have hcon := AnyQ.slices_SortFunc_total L 3 aE zE enc3 (fun _ => rfl) (fun x v hv => by simp [enc3] at hv; rcases hv with rfl | rfl | rfl <;> rfl) cmp3 swo3 g #[] b 0 cap (rows3 l).toArray w eg (cmpLays_of hs b 0 _ w) hH3 hblt (by simp only [hsize]; omega) tot3
    rw [hsize] at hcon
    refine Calls.mono hcon ?_
    rintro e' w' ⟨rfl, m, os, rfl⟩
    rw [List.toList_toArray, sorted_eq]
    refine ⟨_, rfl, ρ, fun _ _ => rfl, hn, ?_⟩
    have hlen3 : (srt3 (rows3 l)).length * 3 = n := by rw [srt3_length, hdl]
    have hheap : (putRowK enc3 3 (Sort.ahead w m) b 0 (srt3 (rows3 l)).toArray).heap = w.heap.modify b (onCells (putCells id 0 (flatK enc3 3 (srt3 (rows3 l)).toArray))) := rfl
    have hown : Own (putRowK enc3 3 (Sort.ahead w m) b 0 (srt3 (rows3 l)).toArray) b (putCells id 0 (flatK enc3 3 (srt3 (rows3 l)).toArray) c).size (putCells id 0 (flatK enc3 3 (srt3 (rows3 l)).toArray) c) := by
      refine ⟨e, fr, ?_, rfl, fun i hi => g3 i (by simp [putCells] at hi; omega)⟩
      rw [hheap, Array.getElem?_modify, if_pos rfl, g1]; rfl
    have hcs : (putCells id 0 (flatK enc3 3 (srt3 (rows3 l)).toArray) c).size = c.size := by simp [putCells]
    have hp : ρ 0 = some ⟨some b, n, (putCells id 0 (flatK enc3 3 (srt3 (rows3 l)).toArray) c).size⟩ := by rw [hcs, hszc]; exact h1
    have hholds : Holds ρ (av F (liveM ρ (blkAt [Blk.ints .i64 l]))) w n (putCells id 0 (flatK enc3 3 (srt3 (rows3 l)).toArray) c) (.ints .i64 (sort3 l)) := by
      refine ⟨by rw [sort3_length hmod, k1], by rw [hcs]; exact k2, fun i hi => ?_⟩
      rw [sort3_length hmod] at hi
      rw [putCells_get, if_pos (by omega)]
      have : i < c.size := by omega
      rw [Array.getElem?_eq_getElem this, Option.map_some]
      rfl
    obtain ⟨q1, q2⟩ := HeapRel.write (w' := putRowK enc3 3 (Sort.ahead w m) b 0 (srt3 (rows3 l)).toArray) hH hl0 hp ⟨by rw [hheap]; simp, ⟨rfl, rfl, rfl, Nat.le_add_right _ _⟩⟩ (fun b' hb' => by rw [hheap, Array.getElem?_modify, if_neg (Ne.symm hb')]) hown hholds
    rw [hset] at q1 q2
    obtain ⟨q3, q4⟩ := q1.grow os
    exact ⟨q3, Rel.of_c _, q2.trans q4⟩
  · subst h2
    rw [hb0] at hk
    have hl : l = [] := by rcases hk with ⟨k2, hk2⟩ | hk2 | ⟨_, _, hk2⟩ <;> cases hk2; rfl
    subst hl
    have hcon := AnyF.slices_SortFunc_none L none 0 (.func (.func g) #[] #[]) w
    refine Calls.mono hcon ?_
    rintro e' w' ⟨rfl, rfl⟩
    exact ⟨_, rfl, ρ, fun _ _ => rfl, hn, hH, Rel.of_c _, Ext.refl _ _⟩

end
end Go.Proofs.Ytlofhdoefjmabaa.Ev

/-
  From a function's law to a row's call: arguments as they are read; a world that is only added to. (A text of ours; no condition.)
-/
namespace Go.Proofs.Ytlofhdoefjmabaa.Ev
open Go.RowKit Go.ChangeShapes Go.WideShapes Go.ChangeAt
set_option linter.unusedVariables false

/-- A call with nothing of its own handed in: what it tells, and nothing old is changed. -/
theorem FnSpec.calls0 {P : Program} {f : Nat} {args : List V} {v : V} (h : FnSpec P f args [] v []) {w : World} {args' : List Value} (hr : RelL (fun _ => none) (fun _ => False) w args args') :
    Calls P f args'.toArray w fun e w' => ∃ u, e = .returned u ∧ Rel (fun _ => none) (fun _ => False) w' v u ∧ Below w.heap.size w w' := by
  have hdd : ∀ i, ¬ (blkAt [] i).live := fun i h => h
  have hno : ∀ (ρ : Rho) b, ¬ liveM ρ (blkAt []) b := fun ρ b hb => by obtain ⟨_, _, _, _, hl⟩ := hb; exact hdd _ hl
  have hH : HeapRel (fun _ => False) (fun _ => none) (blkAt []) w :=
    { wf := fun id p hp => by cases hp
      rel := fun id hl => absurd hl (hdd id)
      inj := fun i j b n C n' C' hi => absurd hi (hdd i)
      low := fun b hb => False.elim hb
      out := fun b hb => (hno _ b hb).elim }
  refine Calls.mono (h.calls (fun _ => False) (fun _ => none) w args' hH (fun _ _ => rfl) (RelL.avoid (fun b hb => hb.elim id (hno _ b)) _ _ hr)) ?_
  rintro e w' ⟨u, he, ρ', h1, h2, h3, h4, h5⟩
  have hρ : ρ' = fun _ => none := by funext i; exact h2 i (Nat.zero_le _)
  subst hρ
  exact ⟨u, he, Rel.avoid (fun b hb => hb.elim) _ _ h4, ⟨h5.keeps.os, h5.keeps.tape, h5.keeps.output, h5.size, fun k hk => h5.same k hk (hno _ k)⟩⟩

section
variable {H : Type} {enc : TypeId × Value → H} {P : Program} {w : World} {base : Nat} {sp : Nat → Bool} {held : Bool}

/-- A struct of three whole numbers, read. -/
theorem read3 {t : TypeId} {f0 f1 f2 : Field} {k0 k1 k2 : IntKind} (ht : P.underlying t = some (.struct #[f0, f1, f2])) (hc : P.cellsOf t = 3)
    (o0 : f0.offset = 0) (o1 : f1.offset = 1) (o2 : f2.offset = 2) (c0 : P.cellsOf f0.type = 1) (c1 : P.cellsOf f1.type = 1) (c2 : P.cellsOf f2.type = 1)
    (u0 : P.underlying f0.type = some (.int k0)) (u1 : P.underlying f1.type = some (.int k1)) (u2 : P.underlying f2.type = some (.int k2))
    {base' : Nat} {v : Value} {d : DataW H} {ps : List MemPlace} (hok : Value.okWide P w .any base' t v) (hd : DataW.Trod enc P w base sp held t v d ps) :
    ∃ a b c, v = .agg #[.int k0 a, .int k1 b, .int k2 c] ∧ (Lit.int k0 a).wf = true ∧ (Lit.int k1 b).wf = true ∧ (Lit.int k2 c).wf = true := by
  simp only [Value.okWide, ht] at hok
  obtain ⟨cs, rfl, hsz, _⟩ := hok
  obtain ⟨fuel, hy⟩ := hd
  obtain ⟨ys, m, _, _, hcl, hl, hf⟩ := DataW.trod_struct ht hy
  have hy0 := hf 0 f0 rfl
  have hy1 := hf 1 f1 rfl
  have hy2 := hf 2 f2 rfl
  have hl3 : ys.length = 3 := by simpa using hl
  rw [o0, c0] at hy0
  rw [o1, c1] at hy1
  rw [o2, c2] at hy2
  have hcl' : cs.toList.length = 3 := by rw [← hc]; exact hcl
  obtain ⟨l⟩ := cs
  match l, hcl', ys, hl3 with
  | [x0, x1, x2], _, [y0, y1, y2], _ =>
    simp [Value.cells] at hy0 hy1 hy2
    obtain ⟨a, e0, _, w0⟩ := DataW.trod_int u0 hy0
    obtain ⟨b, e1, _, w1⟩ := DataW.trod_int u1 hy1
    obtain ⟨c, e2, _, w2⟩ := DataW.trod_int u2 hy2
    simp at e0 e1 e2
    subst e0 e1 e2
    exact ⟨a, b, c, rfl, w0, w1, w2⟩

/-- A struct of four whole numbers, read. -/
theorem read4 {t : TypeId} {f0 f1 f2 f3 : Field} {k0 k1 k2 k3 : IntKind} (ht : P.underlying t = some (.struct #[f0, f1, f2, f3])) (hc : P.cellsOf t = 4)
    (o0 : f0.offset = 0) (o1 : f1.offset = 1) (o2 : f2.offset = 2) (o3 : f3.offset = 3) (c0 : P.cellsOf f0.type = 1) (c1 : P.cellsOf f1.type = 1) (c2 : P.cellsOf f2.type = 1) (c3 : P.cellsOf f3.type = 1)
    (u0 : P.underlying f0.type = some (.int k0)) (u1 : P.underlying f1.type = some (.int k1)) (u2 : P.underlying f2.type = some (.int k2)) (u3 : P.underlying f3.type = some (.int k3))
    {base' : Nat} {v : Value} {d : DataW H} {ps : List MemPlace} (hok : Value.okWide P w .any base' t v) (hd : DataW.Trod enc P w base sp held t v d ps) :
    ∃ a b c e, v = .agg #[.int k0 a, .int k1 b, .int k2 c, .int k3 e] ∧ (Lit.int k0 a).wf = true ∧ (Lit.int k1 b).wf = true ∧ (Lit.int k2 c).wf = true ∧ (Lit.int k3 e).wf = true := by
  simp only [Value.okWide, ht] at hok
  obtain ⟨cs, rfl, hsz, _⟩ := hok
  obtain ⟨fuel, hy⟩ := hd
  obtain ⟨ys, m, _, _, hcl, hl, hf⟩ := DataW.trod_struct ht hy
  have hy0 := hf 0 f0 rfl
  have hy1 := hf 1 f1 rfl
  have hy2 := hf 2 f2 rfl
  have hy3 := hf 3 f3 rfl
  have hl4 : ys.length = 4 := by simpa using hl
  rw [o0, c0] at hy0
  rw [o1, c1] at hy1
  rw [o2, c2] at hy2
  rw [o3, c3] at hy3
  have hcl' : cs.toList.length = 4 := by rw [← hc]; exact hcl
  obtain ⟨l⟩ := cs
  match l, hcl', ys, hl4 with
  | [x0, x1, x2, x3], _, [y0, y1, y2, y3], _ =>
    simp [Value.cells] at hy0 hy1 hy2 hy3
    obtain ⟨a, e0, _, w0⟩ := DataW.trod_int u0 hy0
    obtain ⟨b, e1, _, w1⟩ := DataW.trod_int u1 hy1
    obtain ⟨c, e2, _, w2⟩ := DataW.trod_int u2 hy2
    obtain ⟨d', e3, _, w3⟩ := DataW.trod_int u3 hy3
    simp at e0 e1 e2 e3
    subst e0 e1 e2 e3
    exact ⟨a, b, c, d', rfl, w0, w1, w2, w3⟩

theorem slice_at {t e : TypeId} (ht : P.underlying t = some (.slice e)) {base' : Nat} {a : Addr} {len cap : Nat} (hok : Value.okWide P w .any base' t (.slice (some a) len cap)) : a.spot = none ∧ a.block < w.heap.size := by
  simp only [Value.okWide, ht, Cell.okWide, Cell.ok] at hok
  obtain ⟨_, _, _, h1, row, cells, h2, _⟩ := hok
  refine ⟨h1, ?_⟩
  unfold World.shape? at h2
  split at h2
  · rename_i c elem fr hc
    exact (Array.getElem?_eq_some_iff.mp hc).1
  · cases h2

theorem at_add {b o n : Nat} : (⟨b, o, none⟩ : Addr).add n = ⟨b, o + n, none⟩ := add_plain b o n

/-- A slice of whole numbers, read. -/
theorem read_ints {t e : TypeId} {k : IntKind} (ht : P.underlying t = some (.slice e)) (he : P.underlying e = some (.int k)) (hc : P.cellsOf e = 1)
    {base' : Nat} {v : Value} {d : DataW H} {ps : List MemPlace} (hok : Value.okWide P w .any base' t v) {fuel : Nat} (hd : DataW.trod enc P w base sp held fuel t [v] = some (d, ps)) :
    ∃ l : List Int, Rel (fun _ => none) (fun _ => False) w (.il k 1 l) v ∧ ∀ x ∈ l, (Lit.int k x).wf = true := by
  rcases open_ints ht he hc hd with ⟨hcs, _⟩ | ⟨a, len, cap, zs, hcs, _, hl, _, hz, _, hcell, hwf⟩
  · obtain rfl : v = .slice none 0 0 := by simpa using hcs
    exact ⟨[], by simp only [Rel]; exact ⟨Nat.one_pos, Nat.mod_one _, .inl ⟨trivial, none, rfl⟩⟩, fun x hx => by cases hx⟩
  · obtain rfl : v = .slice (some a) len cap := by simpa using hcs
    obtain ⟨hs, hb⟩ := slice_at ht hok
    obtain ⟨b, o, s⟩ := a
    simp only at hs hb; subst hs
    have hlz : len ≤ zs.length := by rw [hz]; split <;> omega
    have hlen : (zs.take len).length = len := by rw [List.length_take]; omega
    refine ⟨zs.take len, ?_, fun x hx => hwf x (List.mem_of_mem_take hx)⟩
    simp only [Rel]
    refine ⟨Nat.one_pos, Nat.mod_one _, .inr ⟨b, o, cap, by rw [hlen, Nat.div_one], by rw [hlen, Nat.div_one]; exact hl, hb, fun h => h.elim, fun j hj => ?_⟩⟩
    rw [hlen] at hj
    have := hcell j (by omega)
    rw [at_add] at this
    rw [this, List.getD_eq_getElem?_getD, List.getD_eq_getElem?_getD, List.getElem?_take, if_pos hj]

/-- A slice of structs of a whole number and a bool, read. -/
theorem read_walks {t e : TypeId} {f0 f1 : Field} {k : IntKind} (ht : P.underlying t = some (.slice e)) (he : P.underlying e = some (.struct #[f0, f1])) (ce : P.cellsOf e = 2)
    (o0 : f0.offset = 0) (o1 : f1.offset = 1) (c0 : P.cellsOf f0.type = 1) (c1 : P.cellsOf f1.type = 1) (u0 : P.underlying f0.type = some (.int k)) (u1 : P.underlying f1.type = some .bool)
    {base' : Nat} {v : Value} {d : DataW H} {ps : List MemPlace} (hok : Value.okWide P w .any base' t v) (hd : DataW.Trod enc P w base sp held t v d ps) :
    ∃ (xs : List Int) (ys : List Bool), xs.length = ys.length ∧ Rel (fun _ => none) (fun _ => False) w (.iv xs.length [.ints k xs, .bools ys]) v ∧ ∀ x ∈ xs, (Lit.int k x).wf = true := by
  obtain ⟨fuel, hd⟩ := hd
  have hv : v.cells.toList = [v] := by
    simp only [Value.okWide, ht, Cell.okWide] at hok
    cases v <;> first | rfl | (simp [Cell.ok, ht] at hok)
  rw [hv] at hd
  rcases Go.Deep.open_slice_pairs ht he ce o0 o1 c0 c1 hd with ⟨hcs, _⟩ | ⟨a, len, cap, m, n, V0, V1, D0, D1, P0, P1, hcs, _, hl, _, hm, _, hall⟩
  · obtain rfl : v = .slice none 0 0 := by simpa using hcs
    exact ⟨[], [], rfl, by simp only [Rel]; exact ⟨Nat.succ_pos _, .inl ⟨rfl, none, rfl⟩⟩, fun x hx => by cases hx⟩
  · obtain rfl : v = .slice (some a) len cap := by simpa using hcs
    obtain ⟨hs, hb⟩ := slice_at ht hok
    obtain ⟨b, o, s⟩ := a
    simp only at hs hb; subst hs
    have hlm : len ≤ m := by rw [hm]; split <;> omega
    have h0 : ∀ i, i < len → ∃ x, V0 i = .int k x ∧ (Lit.int k x).wf = true := fun i hi => by
      obtain ⟨_, _, h3, _⟩ := hall i (by omega)
      obtain ⟨x, e1, _, w1⟩ := DataW.trod_int u0 h3
      simp at e1
      exact ⟨x, e1, w1⟩
    have h1 : ∀ i, i < len → ∃ y, V1 i = .bool y := fun i hi => by
      obtain ⟨_, _, _, h4⟩ := hall i (by omega)
      obtain ⟨y, e1, _⟩ := DataW.trod_bool u1 h4
      simp at e1
      exact ⟨y, e1⟩
    let X : Nat → Int := fun i => match V0 i with | .int _ x => x | _ => 0
    let Y : Nat → Bool := fun i => match V1 i with | .bool y => y | _ => false
    refine ⟨(List.range len).map X, (List.range len).map Y, by simp, ?_, fun x hx => ?_⟩
    · simp only [Rel, List.length_map, List.length_range]
      refine ⟨Nat.succ_pos _, .inr ⟨b, o, cap, rfl, hl, hb, fun h => h.elim, fun i hi j hj => ?_⟩⟩
      obtain ⟨g0, g1, _⟩ := hall i (by omega)
      obtain ⟨x, ex, _⟩ := h0 i hi
      obtain ⟨y, ey⟩ := h1 i hi
      have hX : X i = x := by show (match V0 i with | .int _ x => x | _ => 0) = x; rw [ex]
      have hY : Y i = y := by show (match V1 i with | .bool y => y | _ => false) = y; rw [ey]
      rw [at_add] at g0 g1
      match j, hj with
      | 0, _ =>
        simp only [List.length_cons, List.length_nil, Nat.add_zero, colsAt, List.getElem?_cons_zero, colC]
        rw [g0, ex, List.getD_eq_getElem?_getD, List.getElem?_map, List.getElem?_range hi]; simp [hX]
      | 1, _ =>
        simp only [List.length_cons, List.length_nil, Nat.add_assoc, colsAt, List.getElem?_cons_succ, List.getElem?_cons_zero, colC]
        rw [g1, ey, List.getD_eq_getElem?_getD, List.getElem?_map, List.getElem?_range hi]; simp [hY]
    · simp only [List.mem_map, List.mem_range] at hx
      obtain ⟨i, hi, rfl⟩ := hx
      obtain ⟨x, ex, hw⟩ := h0 i hi
      have hX : X i = x := by show (match V0 i with | .int _ x => x | _ => 0) = x; rw [ex]
      rw [hX]; exact hw

/-- A struct of a bool and a slice of whole numbers, read. -/
theorem read_big {t e : TypeId} {f0 f1 : Field} {k : IntKind} (ht : P.underlying t = some (.struct #[f0, f1])) (hc : P.cellsOf t = 2)
    (o0 : f0.offset = 0) (o1 : f1.offset = 1) (c0 : P.cellsOf f0.type = 1) (c1 : P.cellsOf f1.type = 1) (u0 : P.underlying f0.type = some .bool) (u1 : P.underlying f1.type = some (.slice e)) (ue : P.underlying e = some (.int k)) (ce : P.cellsOf e = 1)
    (ct : P.cellTypes P.depth t = some [f0.type, f1.type])
    {base' : Nat} {v : Value} {d : DataW H} {ps : List MemPlace} (hok : Value.okWide P w .any base' t v) (hd : DataW.Trod enc P w base sp held t v d ps) :
    ∃ (b : Bool) (s : Value) (l : List Int), v = .agg #[.bool b, s] ∧ Rel (fun _ => none) (fun _ => False) w (.il k 1 l) s ∧ ∀ x ∈ l, (Lit.int k x).wf = true := by
  simp only [Value.okWide, ht] at hok
  obtain ⟨cs, rfl, hsz, ts, hts, _, hrow⟩ := hok
  rw [ct] at hts
  obtain rfl := Option.some.inj hts
  obtain ⟨fuel, hy⟩ := hd
  obtain ⟨ys, m, _, _, hcl, hl, hf⟩ := DataW.trod_struct ht hy
  have hy0 := hf 0 f0 rfl
  have hy1 := hf 1 f1 rfl
  have hl2 : ys.length = 2 := by simpa using hl
  rw [o0, c0] at hy0
  rw [o1, c1] at hy1
  have hcl' : cs.toList.length = 2 := by rw [← hc]; exact hcl
  obtain ⟨l⟩ := cs
  match l, hcl', ys, hl2 with
  | [x0, x1], _, [y0, y1], _ =>
    simp [Value.cells] at hy0 hy1
    obtain ⟨b, e0, _⟩ := DataW.trod_bool u0 hy0
    simp at e0
    subst e0
    obtain ⟨u, hu, hok1⟩ := hrow 1 x1 rfl
    simp at hu
    subst hu
    obtain ⟨zs, h1, h2⟩ := read_ints (base' := base') (v := x1) (d := y1.1) (ps := y1.2) u1 ue ce (by simp only [Value.okWide, u1]; exact hok1) hy1
    exact ⟨b, x1, zs, rfl, h1, h2⟩

theorem rel_big {k : IntKind} {l : List Int} {b : Bool} {s : Value} {ρ : Rho} {M : Nat → Prop} (h : Rel ρ M w (.il k 1 l) s) : Rel ρ M w (.agg [.c (.bool b), .il k 1 l]) (.agg #[.bool b, s]) := by
  rw [Rel]
  refine ⟨#[.bool b, s], rfl, ?_⟩
  show RelL ρ M w [.c (.bool b), .il k 1 l] [.bool b, s]
  rw [RelL, RelL]
  exact ⟨by rw [Rel], h, by simp only [RelL]⟩

theorem Trod.lt {t : TypeId} {v : Value} {d : DataW H} {ps : List MemPlace} (h : DataW.Trod enc P w base sp held t v d ps) : ∀ x ∈ ps, x.block < w.heap.size := by
  obtain ⟨m, hm⟩ := h
  exact DataW.trod_lt m _ _ _ hm

end
end Go.Proofs.Ytlofhdoefjmabaa.Ev
