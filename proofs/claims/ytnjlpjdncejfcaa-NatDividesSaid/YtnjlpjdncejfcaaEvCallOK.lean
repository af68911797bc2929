/-
  The evaluator's calls are sound. (A text of ours; no condition.)
-/
import Derived.Test.YtnjlpjdncejfcaaEvSpec
namespace Go.Proofs.Ytnjlpjdncejfcaa.Ev
set_option linter.unusedVariables false
set_option linter.unusedSimpArgs false

section
variable {P : Program} {F : Nat → Prop} {ρ : Rho} {h : Nat → Blk} {w : World} {nid : Nat}

/-- What an operation leaves behind. -/
def Post (F : Nat → Prop) (ρ : Rho) (h : Nat → Blk) (w : World) (nid : Nat) (out : Out) (v : Value) (w' : World) (ρ' : Rho) : Prop :=
  Sub ρ ρ' ∧ (∀ id, (id < nid ∨ nid + out.new.length ≤ id) → ρ' id = ρ id) ∧
    HeapRel F ρ' (outH h nid out) w' ∧ Rel ρ' (av F (liveM ρ' (outH h nid out))) w' out.val v ∧ Ext (liveM ρ h) w (liveM ρ' (outH h nid out)) w'

/-- The callee's world, told in the caller's names. -/
theorem back_ok (hh : HeapRel F ρ h w) {σ τ : List Nat} {v0 : V} {bs0 : List Blk} (hn : ∀ id, nid ≤ id → id < nid + (bs0.length - σ.length) → ρ id = none)
    (hσ : σ.Nodup) (hle : σ.length ≤ bs0.length) (hdis : ∀ j ∈ σ, j ∉ τ)
    {ρ0 : Rho} {h0 : Nat → Blk} (hρ0 : ∀ j i, σ[j]? = some i → ρ0 j = ρ i) (hρ0' : ∀ j, σ.length ≤ j → ρ0 j = none) (hl0 : ∀ j i, σ[j]? = some i → ((h0 j).live ↔ (h i).live)) (hl0' : ∀ j, σ.length ≤ j → ¬ (h0 j).live)
    {Fl : Nat → Prop} (hFl : ∀ b, av F (liveM ρ h) b → (∀ id ∈ σ ++ τ, ∀ n C, ρ id = some ⟨some b, n, C⟩ → ¬ (h id).live) → Fl b)
    {v' : Value} {w' : World} {ρ' : Rho} (hr1 : ∀ j, j < σ.length → ρ' j = ρ0 j) (hr2 : ∀ j, bs0.length ≤ j → ρ' j = none)
    (hH : HeapRel Fl ρ' (blkAt bs0) w') (hv : Rel ρ' (av Fl (liveM ρ' (blkAt bs0))) w' v0 v') (he : Ext (liveM ρ0 h0) w (liveM ρ' (blkAt bs0)) w') :
    ∃ ρc, Post F ρ h w nid (calleeOut σ τ nid v0 bs0) v' w' ρc := by
  -- the caller's names
  let on := outName σ nid
  let ρc : Rho := fun id => if nid ≤ id ∧ id < nid + (bs0.length - σ.length) then ρ' (σ.length + (id - nid)) else ρ id
  have hnew : (calleeOut σ τ nid v0 bs0).new.length = bs0.length - σ.length := by simp [calleeOut, dropB_eq]
  generalize hout : calleeOut σ τ nid v0 bs0 = out at *
  have hwr : out.wr = zipW σ (bs0.map (renB on)) ++ (bif noImm v0 && bs0.all noImmB then [] else τ.map fun i => (i, .dead)) := by subst hout; rfl
  have hnw : out.new = (bs0.map (renB on)).drop σ.length := by subst hout; simp [calleeOut, dropB_eq]; rfl
  have hval : out.val = ren on v0 := by subst hout; rfl
  -- the blocks afterwards
  have H1 : ∀ id, nid ≤ id → id < nid + (bs0.length - σ.length) → outH h nid out id = renB on (blkAt bs0 (σ.length + (id - nid))) := by
    intro id h1 h2
    rw [outH_eq, updW_append, updW_newL h1 (by rw [hnew]; exact h2), hnw, ← blkAt_map]
    rw [blkAt_getD, blkAt_getD]
    simp only [List.getD_eq_getElem?_getD, List.getElem?_drop]
  have Hx : ∀ id, ¬ (nid ≤ id ∧ id < nid + (bs0.length - σ.length)) → outH h nid out id = updW h out.wr id := by
    intro id hid
    rw [outH_eq, updW_append, updW_other (newL_not (by rw [hnew]; exact hid))]
  have H2 : ∀ id j, ¬ (nid ≤ id ∧ id < nid + (bs0.length - σ.length)) → σ[j]? = some id → outH h nid out id = renB on (blkAt bs0 j) := by
    intro id j hid hj
    have hm : id ∈ σ := List.mem_of_getElem? hj
    rw [Hx id hid, hwr, updW_append, updW_other, updW_zipW σ _ h j id hσ (by simpa using hle) hj, blkAt_map]
    intro hx
    cases hc : (noImm v0 && bs0.all noImmB) <;> rw [hc] at hx <;> simp only [cond_true, cond_false, List.map_nil, List.not_mem_nil] at hx
    simp at hx
    exact hdis id hm hx
  have H4 : ∀ id, ¬ (nid ≤ id ∧ id < nid + (bs0.length - σ.length)) → id ∉ σ → (outH h nid out id).live → outH h nid out id = h id ∧ (id ∈ τ → (noImm v0 && bs0.all noImmB) = true) := by
    intro id hid hm hl
    rw [Hx id hid, hwr, updW_append] at hl ⊢
    cases hc : (noImm v0 && bs0.all noImmB) <;> rw [hc] at hl <;> simp only [cond_true, cond_false] at hl ⊢
    · have hτ : id ∉ τ := by
        intro hτ
        rw [updW_dead _ _ _ hτ] at hl
        exact hl
      rw [updW_other (by simpa [Function.comp_def] using hτ), updW_other (fun hx => hm (zipW_fst _ _ _ hx))]
      exact ⟨rfl, fun hx => absurd hx hτ⟩
    · simp only [updW]
      rw [updW_other (fun hx => hm (zipW_fst _ _ _ hx))]
      exact ⟨rfl, fun _ => trivial⟩
  have hliveM : ∀ b, liveM ρ0 h0 b → ∃ i ∈ σ, ∃ n C, ρ i = some ⟨some b, n, C⟩ ∧ (h i).live := by
    rintro b ⟨j, n, C, h1, h2⟩
    rcases Nat.lt_or_ge j σ.length with hj | hj
    · have hi := List.getElem?_eq_getElem hj
      rw [hρ0 j _ hi] at h1
      exact ⟨_, List.mem_of_getElem? hi, n, C, h1, (hl0 j _ hi).mp h2⟩
    · exact absurd h2 (hl0' j hj)
  have hliveM' : ∀ b, liveM ρ0 h0 b → liveM ρ h b := fun b hb => by
    obtain ⟨i, _, n, C, h1, h2⟩ := hliveM b hb
    exact ⟨i, n, C, h1, h2⟩
  have hρc1 : ∀ id, nid ≤ id → id < nid + (bs0.length - σ.length) → ρc id = ρ' (σ.length + (id - nid)) := fun id h1 h2 => if_pos ⟨h1, h2⟩
  have hρc2 : ∀ id, ¬ (nid ≤ id ∧ id < nid + (bs0.length - σ.length)) → ρc id = ρ id := fun id h1 => if_neg h1
  -- where a live block comes from
  have src : ∀ id, (outH h nid out id).live → (∃ j, j < bs0.length ∧ on j = some id ∧ outH h nid out id = renB on (blkAt bs0 j) ∧ ρc id = ρ' j ∧ (blkAt bs0 j).live) ∨
      (id ∉ σ ∧ outH h nid out id = h id ∧ ρc id = ρ id ∧ (h id).live ∧ (id ∈ τ → (noImm v0 && bs0.all noImmB) = true)) := by
    intro id hl
    by_cases hr : nid ≤ id ∧ id < nid + (bs0.length - σ.length)
    · refine .inl ⟨σ.length + (id - nid), by omega, ?_, H1 id hr.1 hr.2, hρc1 id hr.1 hr.2, ?_⟩
      · show outName σ nid _ = _
        rw [outName_ge (by omega)]; congr 1; omega
      · rw [H1 id hr.1 hr.2] at hl; exact renB_live.mp hl
    · by_cases hm : id ∈ σ
      · obtain ⟨j, hj, hij⟩ := List.mem_iff_getElem.mp hm
        have hj' : σ[j]? = some id := by rw [List.getElem?_eq_getElem hj, hij]
        refine .inl ⟨j, by omega, outName_lt hj', H2 id j hr hj', ?_, ?_⟩
        · rw [hρc2 id hr, hr1 j hj, hρ0 j id hj']
        · rw [H2 id j hr hj'] at hl; exact renB_live.mp hl
      · obtain ⟨h1, h2⟩ := H4 id hr hm hl
        exact .inr ⟨hm, h1, hρc2 id hr, h1 ▸ hl, h2⟩
  have hren : ∀ j i p, on j = some i → ρ' j = some p → ρc i = some p := by
    intro j i p hj hp
    have hjl : j < bs0.length := by
      rcases Nat.lt_or_ge j bs0.length with h | h
      · exact h
      · rw [hr2 j h] at hp; cases hp
    rcases Nat.lt_or_ge j σ.length with hlt | hge
    · have hi := List.getElem?_eq_getElem hlt
      have : i = σ[j] := by have := outName_lt (nid := nid) hi; rw [show outName σ nid j = on j from rfl, hj] at this; exact Option.some.inj this
      subst this
      rw [hr1 j hlt, hρ0 j _ hi] at hp
      have hnr : ¬ (nid ≤ σ[j] ∧ σ[j] < nid + (bs0.length - σ.length)) := fun hr => by rw [hn _ hr.1 hr.2] at hp; cases hp
      rw [hρc2 _ hnr]; exact hp
    · have : i = nid + (j - σ.length) := by have := outName_ge (nid := nid) hge; rw [show outName σ nid j = on j from rfl, hj] at this; exact Option.some.inj this
      subst this
      rw [hρc1 _ (by omega) (by omega)]
      have : σ.length + (nid + (j - σ.length) - nid) = j := by omega
      rw [this]; exact hp
  have hsub : Sub ρ ρc := by
    intro id p hp
    have hnr : ¬ (nid ≤ id ∧ id < nid + (bs0.length - σ.length)) := fun hr => by rw [hn _ hr.1 hr.2] at hp; cases hp
    rw [hρc2 id hnr]; exact hp
  have hext : Ext (liveM ρ h) w (liveM ρc (outH h nid out)) w' := by
    refine ⟨he.size, fun b hb hm => he.same b hb (fun hx => hm (hliveM' b hx)), ?_, he.keeps⟩
    rintro b ⟨id, n, C, h1, h2⟩
    rcases src id h2 with ⟨j, _, _, _, h3, h4⟩ | ⟨_, _, h3, h4, _⟩
    · rw [h3] at h1
      exact (he.sub b ⟨j, n, C, h1, h4⟩).imp (hliveM' b) (fun x => x)
    · rw [h3] at h1
      exact .inl ⟨id, n, C, h1, h4⟩
  -- what immutable slices keep off
  have havoid : (noImm v0 && bs0.all noImmB) = true ∨ ∀ b, av F (liveM ρc (outH h nid out)) b → av Fl (liveM ρ' (blkAt bs0)) b := by
    cases hc : (noImm v0 && bs0.all noImmB) with
    | true => exact .inl rfl
    | false =>
      refine .inr (fun b hb => ?_)
      rcases hb with hb | ⟨id, n, C, h1, h2⟩
      · exact .inl (hFl b (.inl hb) (fun id _ n C hp hl => hh.out b ⟨id, n, C, hp, hl⟩ hb))
      · rcases src id h2 with ⟨j, _, _, _, h3, h4⟩ | ⟨hm, _, h3, h4, hτ⟩
        · rw [h3] at h1
          exact .inr ⟨j, n, C, h1, h4⟩
        · rw [h3] at h1
          refine .inl (hFl b (.inr ⟨id, n, C, h1, h4⟩) (fun id' hid' n' C' hp hl => ?_))
          have := hh.inj id' id b n' C' n C hl h4 hp h1
          subst this
          rcases List.mem_append.mp hid' with hx | hx
          · exact hm hx
          · have := hτ hx; rw [hc] at this; cases this
  have hav1 : ∀ {x : V}, ((noImm v0 && bs0.all noImmB) = true → noImm x = true) → ((∀ b, av F (liveM ρc (outH h nid out)) b → av Fl (liveM ρ' (blkAt bs0)) b) ∨ noImm x = true) := fun hx => havoid.elim (fun hc => .inr (hx hc)) .inl
  refine ⟨ρc, hsub, fun id hid => hρc2 id (by rw [hnew] at hid; omega), ⟨?_, ?_, ?_, hh.low' hext, hh.out' hext⟩, ?_, hext⟩
  · intro id p hp
    by_cases hr : nid ≤ id ∧ id < nid + (bs0.length - σ.length)
    · rw [hρc1 id hr.1 hr.2] at hp; exact hH.wf _ _ hp
    · rw [hρc2 id hr] at hp; exact hh.wf _ _ hp
  · intro id hl
    rcases src id hl with ⟨j, hjl, h1, h2, h3, h4⟩ | ⟨hm, h2, h3, h4, _⟩
    · obtain ⟨p, hp, hb⟩ := hH.rel j h4
      refine ⟨p, by rw [h3]; exact hp, ?_⟩
      rw [h2]
      refine BlkRel.ren hren ?_ hb
      rcases havoid with hc | hc
      · refine .inr ?_
        simp only [Bool.and_eq_true, List.all_eq_true] at hc
        refine hc.2 _ ?_
        rw [blkAt_getD, List.getD_eq_getElem?_getD, List.getElem?_eq_getElem hjl]
        exact List.getElem_mem hjl
      · exact .inl hc
    · obtain ⟨p, hp, hb⟩ := hh.rel id h4
      refine ⟨p, by rw [h3]; exact hp, ?_⟩
      rw [h2]
      refine BlkRel.mono hsub hext hb (fun b hb' => ?_)
      obtain ⟨pb, pn, pC⟩ := p
      dsimp only at hb'
      subst hb'
      refine he.same b (liveM.lt hh ⟨id, pn, pC, hp, h4⟩) (fun hx => ?_)
      obtain ⟨i, hi, n, C, h5, h6⟩ := hliveM b hx
      have := hh.inj i id b _ _ _ _ h6 h4 h5 hp
      subst this
      exact hm hi
  · intro i i' b n C n' C' hi hi' hpi hpi'
    have cross : ∀ {j id n C n' C'}, (blkAt bs0 j).live → ρ' j = some ⟨some b, n, C⟩ → id ∉ σ → (h id).live → ρ id = some ⟨some b, n', C'⟩ → False := by
      intro j id n C n' C' h1 h2 h3 h4 h5
      rcases he.sub b ⟨j, n, C, h2, h1⟩ with hx | hx
      · obtain ⟨i, hi, n2, C2, h6, h7⟩ := hliveM b hx
        have := hh.inj i id b _ _ _ _ h7 h4 h6 h5
        subst this
        exact h3 hi
      · have := liveM.lt hh ⟨id, n', C', h5, h4⟩
        omega
    rcases src i hi with ⟨j, _, h1, _, h3, h4⟩ | ⟨hm, _, h3, h4, _⟩ <;> rcases src i' hi' with ⟨j', _, h1', _, h3', h4'⟩ | ⟨hm', _, h3', h4', _⟩ <;> rw [h3] at hpi <;> rw [h3'] at hpi'
    · have := hH.inj j j' b _ _ _ _ h4 h4' hpi hpi'
      subst this
      rw [h1] at h1'
      exact Option.some.inj h1'
    · exact (cross h4 hpi hm' h4' hpi').elim
    · exact (cross h4' hpi' hm h4 hpi).elim
    · exact hh.inj i i' b _ _ _ _ h4 h4' hpi hpi'
  · rw [hval]
    exact Rel.ren hren _ _ (hav1 (fun hc => by simp only [Bool.and_eq_true] at hc; exact hc.1)) hv

theorem call_ok {tab : Nat → Option Entry} (htab : TabOK P tab) (hh : HeapRel F ρ h w) {f : Nat} {args : List V} {vs : List Value} {out : Out} (hc : CallR tab nid f args h out) (hn : ∀ id, nid ≤ id → id < nid + out.new.length → ρ id = none)
    (hr : RelL ρ (av F (liveM ρ h)) w args vs) : Callable P f ∧ Calls P f vs.toArray w fun e w' => ∃ v' ρ', e = .returned v' ∧ Post F ρ h w nid out v' w' ρ' := by
  obtain ⟨e, at_, σ, enc, a, h1, h2, h3, h4, h5, h6, h7, h8, h9⟩ := hc
  have hS := htab f e h1 _ _ a enc h4
  have hσ := nodup_spec σ h7
  have hdis : ∀ j ∈ σ, j ∉ at_.2 := not_meets.mp (by rw [h8]; rfl)
  let ρ0 : Rho := fun j => match σ[j]? with | some i => ρ i | none => none
  let Fl : Nat → Prop := fun b => av F (liveM ρ h) b ∧ ∀ id ∈ σ ++ at_.2, ∀ n C, ρ id = some ⟨some b, n, C⟩ → ¬ (h id).live
  have hρ0 : ∀ j i, σ[j]? = some i → ρ0 j = ρ i := fun j i hj => by simp only [ρ0, hj]
  have hρ0' : ∀ j, σ.length ≤ j → ρ0 j = none := fun j hj => by simp only [ρ0, List.getElem?_eq_none hj]
  have hb0 : ∀ j i, σ[j]? = some i → blkAt (σ.map fun i => renB (place · σ 0) (h i)) j = renB (place · σ 0) (h i) := fun j i hj => by
    rw [blkAt_getD, List.getD_eq_getElem?_getD, List.getElem?_map, hj]; rfl
  have hb0' : ∀ j, σ.length ≤ j → blkAt (σ.map fun i => renB (place · σ 0) (h i)) j = .dead := fun j hj => by
    rw [blkAt_getD, List.getD_eq_getElem?_getD, List.getElem?_map, List.getElem?_eq_none hj]; rfl
  have hl0 : ∀ j i, σ[j]? = some i → ((blkAt (σ.map fun i => renB (place · σ 0) (h i)) j).live ↔ (h i).live) := fun j i hj => by rw [hb0 j i hj]; exact renB_live
  have hl0' : ∀ j, σ.length ≤ j → ¬ (blkAt (σ.map fun i => renB (place · σ 0) (h i)) j).live := fun j hj => by rw [hb0' j hj]; exact id
  have hren : ∀ i j p, place i σ 0 = some j → ρ i = some p → ρ0 j = some p := fun i j p hj hp => by
    have := (place_spec σ i 0 j hj).2
    rw [hρ0 j i (by simpa using this)]; exact hp
  generalize hbs : (σ.map fun i => renB (place · σ 0) (h i)) = bs at *
  have hlen : bs.length = σ.length := by subst hbs; simp
  have hlm : ∀ b, liveM ρ0 (blkAt bs) b → ∃ i ∈ σ, ∃ n C, ρ i = some ⟨some b, n, C⟩ ∧ (h i).live := by
    rintro b ⟨j, n, C, g1, g2⟩
    rcases Nat.lt_or_ge j σ.length with hj | hj
    · have hi := List.getElem?_eq_getElem hj
      rw [hρ0 j _ hi] at g1
      exact ⟨_, List.mem_of_getElem? hi, n, C, g1, (hl0 j _ hi).mp g2⟩
    · exact absurd g2 (hl0' j hj)
  have hM : ∀ b, av Fl (liveM ρ0 (blkAt bs)) b → av F (liveM ρ h) b := by
    rintro b (hb | hb)
    · exact hb.1
    · obtain ⟨i, _, n, C, g1, g2⟩ := hlm b hb
      exact .inr ⟨i, n, C, g1, g2⟩
  have hH : HeapRel Fl ρ0 (blkAt bs) w := by
    have hex : ∀ j, (blkAt bs j).live → ∃ i, σ[j]? = some i := fun j hl => by
      rcases Nat.lt_or_ge j σ.length with hj | hj
      · exact ⟨_, List.getElem?_eq_getElem hj⟩
      · exact absurd hl (hl0' j hj)
    refine ⟨?_, ?_, ?_, ?_, ?_⟩
    · intro j p hp
      rcases Nat.lt_or_ge j σ.length with hj | hj
      · rw [hρ0 j _ (List.getElem?_eq_getElem hj)] at hp; exact hh.wf _ _ hp
      · rw [hρ0' j hj] at hp; cases hp
    · intro j hl
      obtain ⟨i, hi⟩ := hex j hl
      obtain ⟨p, hp, hb⟩ := hh.rel i ((hl0 j i hi).mp hl)
      refine ⟨p, by rw [hρ0 j i hi]; exact hp, ?_⟩
      rw [hb0 j i hi]
      exact BlkRel.ren hren (.inl hM) hb
    · intro j j' b n C n' C' hl hl' hp hp'
      obtain ⟨i, hi⟩ := hex j hl
      obtain ⟨i', hi'⟩ := hex j' hl'
      rw [hρ0 j i hi] at hp
      rw [hρ0 j' i' hi'] at hp'
      have := hh.inj i i' b _ _ _ _ ((hl0 j i hi).mp hl) ((hl0 j' i' hi').mp hl') hp hp'
      subst this
      have hj : j < σ.length := (List.getElem?_eq_some_iff.mp hi).1
      exact (List.getElem?_inj hj hσ).mp (by rw [hi, hi'])
    · rintro b ⟨hb, _⟩
      rcases hb with hb | hb
      · exact hh.low b hb
      · exact liveM.lt hh hb
    · intro b hb hf
      obtain ⟨i, hi, n, C, g1, g2⟩ := hlm b hb
      exact hf.2 i (by simp [hi]) n C g1 g2
  have hargs : RelL ρ (av Fl (liveM ρ0 (blkAt bs))) w at_.1 vs := by
    have := immArgs_ok (Ml := av Fl (liveM ρ0 (blkAt bs))) hh hM e.imm args vs ?_ hr
    · rw [h2] at this; exact this
    · rw [h2]
      intro id hid b n C hp hl hx
      rcases hx with hx | hx
      · exact hx.2 id (by simp [hid]) n C hp hl
      · obtain ⟨i, hi, n', C', g1, g2⟩ := hlm b hx
        have := hh.inj i id b _ _ _ _ g2 hl g1 hp
        subst this
        exact hdis i hi hid
  refine ⟨hS.callable, Calls.mono (hS.calls Fl ρ0 w vs hH (fun id hid => hρ0' id (by omega)) (RelL.ren hren _ _ (.inl (fun b hb => hb)) hargs)) ?_⟩
  rintro e' w' ⟨v', he', ρ', g1, g2, g3, g4, g5⟩
  have hnew : out.new.length = (enc a).pick.2.length - σ.length := by rw [h9]; simp [calleeOut, dropB_eq]
  obtain ⟨ρc, hpost⟩ := back_ok (nid := nid) hh (v0 := (enc a).pick.1) (bs0 := (enc a).pick.2) (fun id k1 k2 => hn id k1 (by omega)) hσ h6 hdis hρ0 hρ0' hl0 hl0' (Fl := Fl) (fun b k1 k2 => ⟨k1, k2⟩) (fun j hj => g1 j (by omega)) g2 g3 g4 g5
  rw [← h9] at hpost
  exact ⟨v', ρc, he', hpost⟩

end
end Go.Proofs.Ytnjlpjdncejfcaa.Ev
