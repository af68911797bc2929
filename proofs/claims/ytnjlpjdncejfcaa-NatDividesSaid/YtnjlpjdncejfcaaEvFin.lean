/-
  The evaluator's normal forms and results are sound: what holds before holds after. (A text of ours; no condition.)
-/
import Derived.Test.YtnjlpjdncejfcaaEvNorm
namespace Go.Proofs.Ytnjlpjdncejfcaa.Ev
set_option linter.unusedVariables false
set_option linter.unusedSimpArgs false

/-- Where a run began. -/
structure Start where
  F : Nat → Prop
  ρ : Rho
  bs : List Blk
  w : World

/-- A state of the evaluator reads so in a frame and a world, since the start. -/
def Inv (E : Env) (S : Start) (s : St) (a : Act) (w : World) : Prop :=
  ∃ ρ, Rep E S.F ρ (look s.T) (blkAt s.H) a w ∧ (∀ j, s.H.length ≤ j → ρ j = none) ∧ (∀ j, j < E.nb → ρ j = S.ρ j) ∧ E.nb ≤ s.H.length ∧ Ext (liveM S.ρ (blkAt S.bs)) S.w (liveM ρ (blkAt s.H)) w

theorem blkAt_some {H : List Blk} {j : Nat} (hl : (blkAt H j).live) : H[j]? = some (blkAt H j) := by
  rw [blkAt_getD, List.getD_eq_getElem?_getD] at hl ⊢
  cases h : H[j]? with
  | none => rw [h] at hl; exact hl.elim
  | some x => rfl

theorem blkAt_of {H : List Blk} {j : Nat} {x : Blk} (h : H[j]? = some x) : blkAt H j = x := by
  rw [blkAt_getD, List.getD_eq_getElem?_getD, h]; rfl

theorem blksOk_spec : ∀ (nb : Nat) (H : List Blk), blksOk nb H = true → ∀ x ∈ H, ∀ i ∈ refsB x, i < nb
  | _, [], _, x, hx => by simp at hx
  | nb, b :: r, h, x, hx => by
    simp only [blksOk, Bool.and_eq_true, List.all_eq_true] at h
    rcases List.mem_cons.mp hx with rfl | hx
    · intro i hi; exact blt_lt (h.1 i hi)
    · exact blksOk_spec nb r h.2 x hx

theorem look_mkT : ∀ (keep : List (Nat × Sh)) (T : Nat → V) (vs : List V) (u : List Value) (ρ : Rho) (M : Nat → Prop) (w : World) (ev : Nat → Value), RelL ρ M w vs (keep.map fun p => ev p.1) → ∀ t, Rel ρ M w (look (mkT keep vs) t) (ev t)
  | [], _, vs, _, ρ, M, w, ev, hr, t => by simp only [mkT, look, Rel]
  | p :: r, T, [], u, ρ, M, w, ev, hr, t => by simp only [mkT, look, Rel]
  | (d, sh) :: r, T, v :: vs, u, ρ, M, w, ev, hr, t => by
    simp only [List.map_cons, RelL] at hr
    simp only [mkT, look]
    cases hb : Nat.beq d t <;> simp only [cond_true, cond_false]
    · exact look_mkT r T vs u ρ M w ev hr.2 t
    · have := beq_eq hb; subst this; exact hr.1

theorem RelL.map_fn {α : Type} {ρ : Rho} {M : Nat → Prop} {w : World} (f : α → V) (g : α → Value) (h : ∀ x, Rel ρ M w (f x) (g x)) : ∀ l : List α, RelL ρ M w (l.map f) (l.map g)
  | [] => by simp [RelL]
  | x :: l => by simp only [List.map_cons, RelL]; exact ⟨h x, RelL.map_fn f g h l⟩

theorem norm_ok {E : Env} {S : Start} {keep : List (Nat × Sh)} {s : St} {vs : List V} {H : List Blk} (hn : norm E.nb keep s = some (vs, H)) {a : Act} {w : World} (hI : Inv E S s a w) : Inv E S ⟨mkT keep vs, H⟩ a w := by
  obtain ⟨ρ, hr, h1, h2, h3, h4⟩ := hI
  unfold norm at hn
  split at hn
  · rename_i vs' acc hs
    obtain ⟨hok, hn⟩ := cond_some hn
    simp only [Option.some.injEq, Prod.mk.injEq] at hn
    obtain ⟨rfl, rfl⟩ := hn
    obtain ⟨⟨more, hsrc⟩, hk⟩ := shapeL_ok _ _ _ _ _ hs
    have hst : ∀ j : Nat, (startAcc E.nb s.H).src[j]? = if j < E.nb then some (some j) else none := by
      intro j
      simp only [startAcc, List.getElem?_map]
      by_cases hj : j < E.nb
      · rw [List.getElem?_range hj, if_pos hj]; rfl
      · rw [List.getElem?_eq_none (by simp; omega), if_neg hj]; rfl
    have hlen0 : (startAcc E.nb s.H).src.length = E.nb := by simp [startAcc]
    have hst2 : ∀ j : Nat, j < E.nb → (startAcc E.nb s.H).blks[j]? = s.H[j]? := fun j hj => by simp [startAcc, List.getElem?_take, hj]
    have hacc0 : AccOK (blkAt s.H) (startAcc E.nb s.H) := by
      refine ⟨by simp [startAcc, h3], ?_, ?_, ?_⟩
      · intro i j id hi hj
        rw [hst] at hi hj
        split at hi <;> split at hj <;> simp_all
      · intro j hj; rw [hst] at hj; split at hj <;> simp at hj
      · intro j id x hj hx hl
        rw [hst] at hj
        split at hj
        · rename_i hlt
          rw [hst2 j hlt] at hx
          simp only [Option.some.injEq] at hj
          subst hj
          rw [blkAt_of hx]; exact hl
        · cases hj
    obtain ⟨hA, hR⟩ := hk hacc0
    let ρ' : Rho := fun j => match acc.src[j]? with
      | some (some id) => ρ id
      | some none => some ⟨none, 0, 0⟩
      | none => none
    have hc : Cons ρ ρ' acc.src := ⟨fun j id hj => by simp only [ρ', hj], fun j hj => by simp only [ρ', hj]⟩
    have hpre : ∀ j, j < E.nb → acc.src[j]? = some (some j) := fun j hj => by
      rw [hsrc, List.getElem?_append_left (by rw [hlen0]; exact hj), hst, if_pos hj]
    have hρ' : ∀ j, j < E.nb → ρ' j = ρ j := fun j hj => hc.old j j (hpre j hj)
    have hb0 : BlksOK (blkAt s.H) ρ ρ' (av S.F (liveM ρ (blkAt s.H))) w (startAcc E.nb s.H) := by
      intro j id x p hj hx hp hb
      rw [hst] at hj
      split at hj
      · rename_i hlt
        simp only [Option.some.injEq] at hj
        subst hj
        rw [hst2 j hlt] at hx
        rw [blkAt_of hx] at hb
        refine hb.agree (fun i hi p hp => ?_)
        have hin : x ∈ s.H.take E.nb := List.mem_of_getElem? (i := j) (by rw [List.getElem?_take, if_pos hlt]; exact hx)
        rw [hρ' i (blksOk_spec _ _ hok x hin i hi)]; exact hp
      · cases hj
    obtain ⟨hB, hV⟩ := hR ρ ρ' _ w (fun id p hl hp => by obtain ⟨p', hp', hb'⟩ := hr.heap.rel id hl; rw [hp] at hp'; cases hp'; exact hb') hc hb0
    have hsrcOf : ∀ j, (blkAt acc.blks j).live → (∃ id, acc.src[j]? = some (some id) ∧ ρ' j = ρ id ∧ (blkAt s.H id).live) ∨ (acc.src[j]? = some none ∧ ρ' j = some ⟨none, 0, 0⟩ ∧ ∃ k, blkAt acc.blks j = .ints k []) := by
      intro j hl
      have hx := blkAt_some hl
      have hj : j < acc.src.length := by rw [hA.len]; exact (List.getElem?_eq_some_iff.mp hx).1
      cases hsj : acc.src[j] with
      | some id =>
        have h0 : acc.src[j]? = some (some id) := by rw [List.getElem?_eq_getElem hj, hsj]
        exact .inl ⟨id, h0, hc.old j id h0, hA.live j id _ h0 hx hl⟩
      | none =>
        have h0 : acc.src[j]? = some none := by rw [List.getElem?_eq_getElem hj, hsj]
        obtain ⟨k, hk⟩ := hA.virt j h0
        exact .inr ⟨h0, hc.nil j h0, k, blkAt_of hk⟩
    have hM : ∀ b, liveM ρ' (blkAt acc.blks) b → liveM ρ (blkAt s.H) b := by
      rintro b ⟨j, n, C, hp, hl⟩
      rcases hsrcOf j hl with ⟨id, _, g2, g3⟩ | ⟨_, g2, _⟩
      · rw [g2] at hp; exact ⟨id, n, C, hp, g3⟩
      · rw [g2] at hp; cases hp
    have hMa : ∀ b, av S.F (liveM ρ' (blkAt acc.blks)) b → av S.F (liveM ρ (blkAt s.H)) b := fun b hb => hb.imp id (hM b)
    refine ⟨ρ', ⟨⟨?_, ?_, ?_, hr.heap.low, fun b hb => hr.heap.out b (hM b hb)⟩, ?_, hr.size, hr.defers⟩, ?_, fun j hj => by rw [hρ' j hj]; exact h2 j hj, ?_, ⟨h4.size, h4.same, fun b hb => h4.sub b (hM b hb), h4.keeps⟩⟩
    · intro j p hp
      simp only [ρ'] at hp
      split at hp
      · exact hr.heap.wf _ _ hp
      · simp only [Option.some.injEq] at hp; subst hp; exact Nat.le_refl _
      · cases hp
    · intro j hl
      dsimp only at hl ⊢
      rcases hsrcOf j hl with ⟨id, g1, g2, g3⟩ | ⟨_, g2, k, g3⟩
      · obtain ⟨p, hp, hb⟩ := hr.heap.rel id g3
        exact ⟨p, by rw [g2]; exact hp, BlkRel.avoid hMa (hB j id _ p g1 (blkAt_some hl) hp hb)⟩
      · exact ⟨_, g2, by rw [g3]; exact ⟨rfl, .inl ⟨rfl, rfl, rfl⟩⟩⟩
    · intro i j b n C n' C' hi hj hpi hpj
      rcases hsrcOf i hi with ⟨id, g1, g2, g3⟩ | ⟨_, g2, _⟩
      · rcases hsrcOf j hj with ⟨id', g1', g2', g3'⟩ | ⟨_, g2', _⟩
        · rw [g2] at hpi; rw [g2'] at hpj
          have := hr.heap.inj id id' b _ _ _ _ g3 g3' hpi hpj
          subst this
          exact hA.nodup i j id g1 g1'
        · rw [g2'] at hpj; cases hpj
      · rw [g2] at hpi; cases hpi
    · intro t
      refine Rel.avoid hMa _ _ ?_
      refine look_mkT keep (look s.T) vs' [] ρ' _ w (fun t => a.eval (.tmp t)) (hV _ ?_) t
      exact RelL.map_fn _ _ (fun p => hr.tmps p.1) keep
    · intro j hj
      dsimp only at hj
      rw [← hA.len] at hj
      simp only [ρ', List.getElem?_eq_none hj]
    · dsimp only
      rw [← hA.len, hsrc]; simp [hlen0]
  · cases hn

/- Results -/

section
variable {P : Program} {F : Nat → Prop} {ρ : Rho} {h : Nat → Blk} {w : World}

mutual
theorem freeze_ok (hh : HeapRel F ρ h w) {nb : Nat} {ρ' : Rho} {M' : Nat → Prop} (hρ : ∀ i, i < nb → ρ' i = ρ i) (hM : ∀ b, M' b → liveM ρ h b) (hM' : ∀ b, M' b → ∀ id n C, nb ≤ id → (h id).live → ρ id ≠ some ⟨some b, n, C⟩) :
    ∀ (sh : Sh) (v v' : V) (u : Value), freeze nb h sh v = some v' → Rel ρ (av F (liveM ρ h)) w v u → Rel ρ' (av F M') w v' u
  | .il k s, v, v', u, hf, hr => by
    have hMa : ∀ b, av F M' b → av F (liveM ρ h) b := fun b hb => hb.imp id (hM b)
    have key : ∀ id b n C, nb ≤ id → (h id).live → ρ id = some ⟨some b, n, C⟩ → ¬ av F M' b := fun id b n C h1 h2 h3 hb => hb.elim (fun hf => hh.out b ⟨id, n, C, h3, h2⟩ hf) (fun hm => hM' b hm id n C h1 h2 h3)
    unfold freeze at hf
    split at hf
    · obtain ⟨h0, hf⟩ := cond_some hf
      simp only [Option.some.injEq] at hf
      subst hf
      simp only [Rel] at hr ⊢
      exact ⟨blt_lt h0, by simp, .inl ⟨trivial, none, hr⟩⟩
    · obtain ⟨h0, hf⟩ := cond_some hf
      simp only [Option.some.injEq] at hf
      subst hf
      have := Rel.avoid hMa _ _ hr
      simpa only [Rel] using this
    · rename_i id s'
      obtain ⟨h0, hf2⟩ := cond_some hf
      clear hf
      simp only [Bool.and_eq_true] at h0
      have h1 := ble_le h0.1
      have h2 := beq_eq h0.2
      clear h0
      subst h2
      split at hf2
      · rename_i k' l hid
        obtain ⟨_, hf⟩ := cond_some hf2
        simp only [Option.some.injEq] at hf
        subst hf
        have hl : (h id).live := by rw [hid]; trivial
        obtain ⟨g0, ⟨b, n, C, cap, c, g1, g2, g3, g4, g5, ho, hsz, hold⟩ | ⟨g1, g2, hk⟩⟩ := sw_cells hh hr hl
        · rw [hid] at hold
          obtain ⟨e1, e2, e3⟩ := hold
          simp only [Rel]
          refine ⟨g0, by rw [e1]; exact g2, .inr ⟨b, 0, cap, by rw [e1]; exact g5, by rw [e1]; exact g3, ho.lt, key id b n C h1 hl g1, fun j hj => ?_⟩⟩
          rw [Nat.zero_add, ho.cell]
          exact e3 j hj
        · rw [hid] at hk
          rcases hk with ⟨k2, hk⟩ | hk <;> cases hk
          simp only [Rel]
          exact ⟨g0, by simp, .inl ⟨trivial, none, g2⟩⟩
      · cases hf2
    · rename_i id s' off len
      obtain ⟨h0, hf2⟩ := cond_some hf
      clear hf
      simp only [Bool.and_eq_true] at h0
      have h1 := ble_le h0.1
      have h2 := beq_eq h0.2
      clear h0
      subst h2
      split at hf2
      · rename_i k' l hid
        obtain ⟨_, hf⟩ := cond_some hf2
        simp only [Option.some.injEq] at hf
        subst hf
        have hl : (h id).live := by rw [hid]; trivial
        simp only [Rel] at hr ⊢
        obtain ⟨g0, ⟨b, n, C, cap, g1, g2, g3, g4, g5⟩ | ⟨g1, a, g2⟩⟩ := hr
        · obtain ⟨c, ho, hsz, hold⟩ := hh.own hl g1
          rw [hid] at hold
          obtain ⟨e1, e2, e3⟩ := hold
          have hlen : ((l.drop off).take (mulw s len)).length = len * s := by rw [mulw_eq]; simp; omega
          rw [hlen]
          refine ⟨g0, Nat.mul_mod_left _ _, .inr ⟨b, off, cap, by rw [Nat.mul_div_cancel _ g0]; exact g5, by rw [Nat.mul_div_cancel _ g0]; exact g3, ho.lt, key id b n C h1 hl g1, fun j hj => ?_⟩⟩
          rw [ho.cell, e3 _ (by omega)]
          congr 2
          simp only [List.getD_eq_getElem?_getD]
          rw [List.getElem?_take_of_lt (by rw [mulw_eq]; omega), List.getElem?_drop]
        · subst g1
          have : (l.drop off).take (mulw s 0) = [] := by rw [mulw_eq]; simp
          rw [this]
          exact ⟨g0, by simp, .inl ⟨rfl, a, g2⟩⟩
      · cases hf2
    · cases hf
  | .recd ss, v, v', u, hf, hr => by
    unfold freeze at hf
    split at hf
    · rename_i cs
      split at hf
      · rename_i cs' hL
        simp only [Option.some.injEq] at hf
        subst hf
        simp only [Rel] at hr ⊢
        obtain ⟨vs, e, hr⟩ := hr
        exact ⟨vs, e, freezeL_ok hh hρ hM hM' ss cs cs' _ hL hr⟩
      · cases hf
    · cases hf
  | .tup ss, v, v', u, hf, hr => by
    unfold freeze at hf
    split at hf
    · rename_i cs
      split at hf
      · rename_i cs' hL
        simp only [Option.some.injEq] at hf
        subst hf
        simp only [Rel] at hr ⊢
        obtain ⟨vs, e, hr⟩ := hr
        exact ⟨vs, e, freezeL_ok hh hρ hM hM' ss cs cs' _ hL hr⟩
      · cases hf
    · cases hf
  | .any, v, v', u, hf, hr => by
    simp only [freeze] at hf
    obtain ⟨h0, hf⟩ := cond_some hf
    simp only [Option.some.injEq] at hf
    subst hf
    simp only [List.all_eq_true] at h0
    exact Rel.avoid (fun b hb => hb.imp id (hM b)) _ _ (hr.agree _ _ (fun i hi p hp => by rw [hρ i (blt_lt (h0 i hi))]; exact hp))
  | .row _ _, v, v', u, hf, hr => by
    simp only [freeze] at hf
    obtain ⟨h0, hf⟩ := cond_some hf
    simp only [Option.some.injEq] at hf
    subst hf
    simp only [List.all_eq_true] at h0
    exact Rel.avoid (fun b hb => hb.imp id (hM b)) _ _ (hr.agree _ _ (fun i hi p hp => by rw [hρ i (blt_lt (h0 i hi))]; exact hp))
  | .part _ _, v, v', u, hf, hr => by
    simp only [freeze] at hf
    obtain ⟨h0, hf⟩ := cond_some hf
    simp only [Option.some.injEq] at hf
    subst hf
    simp only [List.all_eq_true] at h0
    exact Rel.avoid (fun b hb => hb.imp id (hM b)) _ _ (hr.agree _ _ (fun i hi p hp => by rw [hρ i (blt_lt (h0 i hi))]; exact hp))
  | .box _, v, v', u, hf, hr => by
    simp only [freeze] at hf
    obtain ⟨h0, hf⟩ := cond_some hf
    simp only [Option.some.injEq] at hf
    subst hf
    simp only [List.all_eq_true] at h0
    exact Rel.avoid (fun b hb => hb.imp id (hM b)) _ _ (hr.agree _ _ (fun i hi p hp => by rw [hρ i (blt_lt (h0 i hi))]; exact hp))
theorem freezeL_ok (hh : HeapRel F ρ h w) {nb : Nat} {ρ' : Rho} {M' : Nat → Prop} (hρ : ∀ i, i < nb → ρ' i = ρ i) (hM : ∀ b, M' b → liveM ρ h b) (hM' : ∀ b, M' b → ∀ id n C, nb ≤ id → (h id).live → ρ id ≠ some ⟨some b, n, C⟩) :
    ∀ (ss : List Sh) (vs vs' : List V) (us : List Value), freezeL nb h ss vs = some vs' → RelL ρ (av F (liveM ρ h)) w vs us → RelL ρ' (av F M') w vs' us
  | [], [], vs', us, hf, hr => by
    simp only [freezeL, Option.some.injEq] at hf
    subst hf
    cases us <;> simp_all [RelL]
  | s :: ss, v :: vs, vs', us, hf, hr => by
    unfold freezeL at hf
    split at hf
    · rename_i v1 h1
      split at hf
      · rename_i vs1 h2
        simp only [Option.some.injEq] at hf
        subst hf
        cases us with
        | nil => simp only [RelL] at hr
        | cons u us =>
          simp only [RelL] at hr ⊢
          exact ⟨freeze_ok hh hρ hM hM' s v v1 u h1 hr.1, freezeL_ok hh hρ hM hM' ss vs vs1 us h2 hr.2⟩
      · cases hf
    · cases hf
  | [], _ :: _, vs', us, hf, hr => by simp [freezeL] at hf
  | _ :: _, [], vs', us, hf, hr => by simp [freezeL] at hf
end

theorem resV_ok {E : Env} (hty : TyOK P E.ty) {s : St} {a : Act} (hr : Rep E F ρ (look s.T) (blkAt s.H) a w) : ∀ (rs : List ResultVar) (vs : List V), resV E s rs = some vs →
    ∃ us, RelL ρ (av F (liveM ρ (blkAt s.H))) w vs us ∧ (rs.mapM (m := Sem) fun
      | .tmp t => pure (a.tmps.getD t undef)
      | .cell x t => do loadVar t (← asAddr (a.tmps.getD x undef))).run P w = .ok us w
  | [], vs, h => by
    simp only [resV, Option.some.injEq] at h
    subst h
    exact ⟨[], by simp [RelL], by simp⟩
  | .tmp t :: r, vs, h => by
    simp only [resV] at h
    split at h
    · rename_i vs1 h1
      simp only [Option.some.injEq] at h
      subst h
      obtain ⟨us, g1, g2⟩ := resV_ok hty hr r vs1 h1
      refine ⟨_ :: us, ⟨hr.tmps t, g1⟩, ?_⟩
      simp only [List.mapM_cons, Sem.run_bind, Sem.run_pure, Result.andThen_ok, g2, Act.eval]
    · cases h
  | .cell x t :: r, vs, h => by
    simp only [resV] at h
    split at h
    · rename_i ti id off ext hti hx
      obtain ⟨h0, h⟩ := cond_some h
      simp only [Bool.and_eq_true] at h0
      have hle := ble_le h0.1
      have hpos := blt_lt h0.2
      split at h
      · rename_i v1 vs1 hv h1
        simp only [Option.some.injEq] at h
        subst h
        obtain ⟨us, g1, g2⟩ := resV_ok hty hr r vs1 h1
        have hx' := hr.tmps x
        rw [hx] at hx'
        simp only [Rel] at hx'
        obtain ⟨b, n, C, hp, hn, he⟩ := hx'
        have hlive : (blkAt s.H id).live := by
          cases hb : blkAt s.H id with
          | dead => rw [hb] at hv; simp [loadBlk] at hv
          | _ => trivial
        have h0' := hty _ _ hti
        obtain ⟨v, r1, r2⟩ := loadBlk_ok (b := b) (o := 0) h0' hpos (hr.heap.cellsAt hlive hp) (by omega) hv h0'.one
        rw [Nat.zero_add] at r1
        refine ⟨v :: us, ⟨r2, g1⟩, ?_⟩
        simp only [Act.eval] at he
        have ha : (asAddr (a.tmps.getD x undef)).run P w = .ok ⟨b, off, none⟩ w := by rw [he]; rfl
        simp only [List.mapM_cons, Sem.run_bind, Sem.run_pure, Result.andThen_ok, ha, r1, g2]
      · cases h
    · cases h

theorem one_ok {vs : List V} {us : List Value} {M : Nat → Prop} (hr : RelL ρ M w vs us) : Rel ρ M w (one vs) (if h : us.toArray.size = 1 then us.toArray[0] else .tuple us.toArray) := by
  have hl := hr.length
  unfold one
  split
  · rename_i v
    cases us with
    | nil => simp at hl
    | cons u us =>
      cases us with
      | nil => simp only [RelL] at hr; simpa using hr.1
      | cons => simp at hl
  · rename_i h1
    have hne : ¬ us.toArray.size = 1 := by
      intro he
      simp at he
      rw [← hl] at he
      obtain ⟨v, hv⟩ := List.length_eq_one_iff.mp he
      exact h1 v hv
    rw [dif_neg hne]
    simp only [Rel]
    exact ⟨_, rfl, by simpa using hr⟩

theorem look_mkArgs : ∀ (vs : List V) (us : List Value) (i t : Nat) (ρ : Rho) (M : Nat → Prop) (w : World) (d : Value), RelL ρ M w vs us → Rel ρ M w (look (mkArgs i vs) t) (if i ≤ t ∧ t < i + us.length then us.getD (t - i) undef else d)
  | [], us, i, t, ρ, M, w, d, hr => by simp only [mkArgs, look, Rel]
  | v :: vs, [], i, t, ρ, M, w, d, hr => by simp only [RelL] at hr
  | v :: vs, u :: us, i, t, ρ, M, w, d, hr => by
    simp only [RelL] at hr
    simp only [mkArgs, look]
    cases hb : Nat.beq i t <;> simp only [cond_true, cond_false]
    · have hne : i ≠ t := fun e => by subst e; simp at hb
      have := look_mkArgs vs us (i + 1) t ρ M w d hr.2
      by_cases hc : i ≤ t ∧ t < i + (us.length + 1)
      · rw [if_pos (by omega)] at this
        rw [if_pos (by simp; omega)]
        have e : t - i = (t - (i + 1)) + 1 := by omega
        rw [e]
        simpa using this
      · rw [if_neg (by omega)] at this
        rw [if_neg (by simp; omega)]
        exact this
    · have := beq_eq hb
      subst this
      rw [if_pos (by simp)]
      simpa using hr.1

theorem relL_of_look {ρ : Rho} {M : Nat → Prop} {w : World} : ∀ (i : Nat) (ss : List Sh) (vs : List V) (us : List Value), vs.length = ss.length → us.length = ss.length → (∀ t, Rel ρ M w (look (mkT (zipSh i ss) vs) (i + t)) (us.getD t undef)) → RelL ρ M w vs us
  | i, [], [], [], _, _, _ => by simp only [RelL]
  | i, s :: ss, v :: vs, u :: us, h1, h2, h => by
    simp only [RelL]
    have h0 := h 0
    simp only [zipSh, mkT, look, Nat.add_zero, Nat.beq_refl, cond_true] at h0
    refine ⟨by simpa using h0, relL_of_look (i + 1) ss vs us (by simpa using h1) (by simpa using h2) fun t => ?_⟩
    have ht := h (t + 1)
    have hb : Nat.beq i (i + (t + 1)) = false := by
      cases hc : Nat.beq i (i + (t + 1)) with
      | false => rfl
      | true => have := beq_eq hc; omega
    simp only [zipSh, mkT, look, hb, cond_false] at ht
    have e : i + 1 + t = i + (t + 1) := by omega
    rw [e]
    simpa using ht
  | i, [], _ :: _, _, h1, _, _ => by simp at h1
  | i, _ :: _, [], _, h1, _, _ => by simp at h1
  | i, [], [], _ :: _, _, h2, _ => by simp at h2
  | i, _ :: _, _ :: _, [], _, h2, _ => by simp at h2

/-- What a function answers at its end. -/
def RetOK (P : Program) (fn : Func) (S : Start) (v : V) (bs : List Blk) (a : Act) (w : World) : Prop :=
  a.defers = [] ∧ ∃ u, (results fn a.tmps).run P w = .ok u w ∧ FnPost S.F S.ρ S.bs S.w v bs u w

theorem fin_ok {E : Env} {fn : Func} (hty : TyOK P E.ty) (hres : E.res = fn.results.toList) {S : Start} (hnb : E.nb = S.bs.length) {s : St} {v : V} {bs : List Blk} (hf : fin E s = some (v, bs)) {a : Act} (hI : Inv E S s a w) : RetOK P fn S v bs a w := by
  obtain ⟨ρ, hr, h1, h2, h3, h4⟩ := hI
  refine ⟨hr.defers, ?_⟩
  unfold fin at hf
  split at hf
  · cases hf
  · rename_i vs hvs
    have hf0 := hf; clear hf
    cases hrow : E.own <;> rw [hrow] at hf0 <;> simp only [cond_true, cond_false] at hf0
    rotate_left
    · split at hf0
      · cases hf0
      · rename_i vs' H' hn
        obtain ⟨hok, hf⟩ := cond_some hf0
        simp only [Option.some.injEq, Prod.mk.injEq] at hf
        obtain ⟨rfl, rfl⟩ := hf
        simp only [Bool.and_eq_true] at hok
        have hl1 := beq_eq hok.1
        have hl2 := beq_eq hok.2
        obtain ⟨us, g1, g2⟩ := resV_ok hty hr _ _ hvs
        have hlu := g1.length
        refine ⟨if h : us.toArray.size = 1 then us.toArray[0] else .tuple us.toArray, ?_, ?_⟩
        · unfold results
          rw [← Array.toArray_toList (xs := fn.results), List.mapM_toArray, ← hres]
          simp only [bind_map_left, Sem.run_bind, Sem.run_pure]
          exact (congrArg (fun r => Result.andThen r _) g2).trans rfl
        · have hev : ∀ t, Act.eval ⟨us.toArray, []⟩ (.tmp t) = us.getD t undef := fun t => by simp [Act.eval, List.getD_eq_getElem?_getD]
          have hI1 : Inv { E with ntmps := us.length } S ⟨mkArgs 0 vs, s.H⟩ ⟨us.toArray, []⟩ w := by
            refine ⟨ρ, ⟨hr.heap, fun t => ?_, by simp, rfl⟩, h1, h2, h3, h4⟩
            have := look_mkArgs vs us 0 t ρ (av S.F (liveM ρ (blkAt s.H))) w undef g1
            rw [hev]
            dsimp only
            split at this
            · simpa using this
            · rename_i hge
              have : us.getD t undef = undef := by
                rw [List.getD_eq_getElem?_getD, List.getElem?_eq_none (by omega)]; rfl
              rw [this]; assumption
          obtain ⟨ρ', k1, k2, k3, k4, k5⟩ := norm_ok (E := { E with ntmps := us.length }) hn hI1
          refine ⟨ρ', fun j hj => k3 j (by dsimp only; omega), k2, k1.heap, one_ok (relL_of_look 0 E.rsh vs' us hl2 (by omega) fun t => ?_), k5⟩
          have := k1.tmps t
          rw [hev] at this
          rw [Nat.zero_add]; exact this
    have hf := hf0; clear hf0
    split at hf
    · cases hf
    · rename_i vs' hfz
      obtain ⟨hok, hf⟩ := cond_some hf
      simp only [Option.some.injEq, Prod.mk.injEq] at hf
      obtain ⟨rfl, rfl⟩ := hf
      obtain ⟨us, g1, g2⟩ := resV_ok hty hr _ _ hvs
      refine ⟨if h : us.toArray.size = 1 then us.toArray[0] else .tuple us.toArray, ?_, ?_⟩
      · unfold results
        rw [← Array.toArray_toList (xs := fn.results), List.mapM_toArray, ← hres]
        simp only [bind_map_left, Sem.run_bind, Sem.run_pure]
        exact (congrArg (fun r => Result.andThen r _) g2).trans rfl
      · let ρ' : Rho := fun j => if j < E.nb then ρ j else none
        have hρ' : ∀ j, j < E.nb → ρ' j = ρ j := fun j hj => if_pos hj
        have hbt : ∀ j, blkAt (s.H.take E.nb) j = if j < E.nb then blkAt s.H j else .dead := fun j => by
          rw [blkAt_getD, blkAt_getD, List.getD_eq_getElem?_getD, List.getD_eq_getElem?_getD, List.getElem?_take]
          split <;> rfl
        have hlive : ∀ j, (blkAt (s.H.take E.nb) j).live → j < E.nb ∧ (blkAt s.H j).live := fun j hl => by
          rw [hbt] at hl
          split at hl
          · exact ⟨by assumption, hl⟩
          · exact hl.elim
        have hM : ∀ b, liveM ρ' (blkAt (s.H.take E.nb)) b → liveM ρ (blkAt s.H) b := by
          rintro b ⟨j, n, C, hp, hl⟩
          obtain ⟨k1, k2⟩ := hlive j hl
          rw [hρ' j k1] at hp
          exact ⟨j, n, C, hp, k2⟩
        have hMa : ∀ b, av S.F (liveM ρ' (blkAt (s.H.take E.nb))) b → av S.F (liveM ρ (blkAt s.H)) b := fun b hb => hb.imp id (hM b)
        refine ⟨ρ', fun j hj => ?_, fun j hj => ?_, ⟨?_, ?_, ?_, hr.heap.low, fun b hb => hr.heap.out b (hM b hb)⟩, ?_, ⟨h4.size, h4.same, fun b hb => h4.sub b (hM b hb), h4.keeps⟩⟩
        · rw [hρ' j (by omega)]; exact h2 j (by omega)
        · have : ¬ j < E.nb := by simp [List.length_take] at hj; omega
          exact if_neg this
        · intro j p hp
          simp only [ρ'] at hp
          split at hp
          · exact hr.heap.wf _ _ hp
          · cases hp
        · intro j hl
          obtain ⟨k1, k2⟩ := hlive j hl
          obtain ⟨p, hp, hb⟩ := hr.heap.rel j k2
          refine ⟨p, by rw [hρ' j k1]; exact hp, ?_⟩
          rw [hbt, if_pos k1]
          refine BlkRel.avoid hMa (hb.agree (fun i hi p hp => ?_))
          have hin : blkAt s.H j ∈ s.H.take E.nb := List.mem_of_getElem? (i := j) (by rw [List.getElem?_take, if_pos k1]; exact blkAt_some k2)
          rw [hρ' i (blksOk_spec _ _ hok _ hin i hi)]; exact hp
        · intro i j b n C n' C' hi hj hpi hpj
          obtain ⟨k1, k2⟩ := hlive i hi
          obtain ⟨k3, k4⟩ := hlive j hj
          rw [hρ' i k1] at hpi
          rw [hρ' j k3] at hpj
          exact hr.heap.inj i j b _ _ _ _ k2 k4 hpi hpj
        · refine one_ok (freezeL_ok hr.heap hρ' hM ?_ _ _ _ _ hfz g1)
          rintro b ⟨j, n, C, hp, hl⟩ id n' C' hid hli hpi
          obtain ⟨k1, k2⟩ := hlive j hl
          rw [hρ' j k1] at hp
          have := hr.heap.inj j id b _ _ _ _ k2 hli hp hpi
          omega

end
end Go.Proofs.Ytnjlpjdncejfcaa.Ev
