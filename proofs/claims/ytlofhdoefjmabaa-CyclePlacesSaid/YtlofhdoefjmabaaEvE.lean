/-
  The evaluator's calls are sound. (A text of ours; no condition.)
-/
import Derived.Test.YtlofhdoefjmabaaEvD
namespace Go.Proofs.Ytlofhdoefjmabaa.Ev
set_option linter.unusedVariables false
set_option linter.unusedSimpArgs false

section
variable {P : Program} {F : Nat → Prop} {ρ : Rho} {h : Nat → Blk} {w : World} {nid : Nat}

/-- What an operation leaves behind. -/
def Post (F : Nat → Prop) (ρ : Rho) (h : Nat → Blk) (w : World) (nid : Nat) (out : Out) (v : Value) (w' : World) (ρ' : Rho) : Prop :=
  Sub ρ ρ' ∧ (∀ id, (id < nid ∨ nid + out.new.length ≤ id) → ρ' id = ρ id) ∧
    HeapRel F ρ' (outH h nid out) w' ∧ Rel ρ' (av F (liveM ρ' (outH h nid out))) w' out.val v ∧ Ext (liveM ρ h) w (liveM ρ' (outH h nid out)) w'

/-- The callee's world, told in the caller's names. -/
theorem back_ok (hh : HeapRel F ρ h w) {σ τ : List Nat} {v0 : V} {bs0 : List Blk} (hn : ∀ id, nid ≤ id → id < nid + (bs0.length - σ.length) → ρ id = none)
    (hσ : σ.Nodup) (hle : σ.length ≤ bs0.length) (hdis : ∀ j ∈ σ, j ∉ τ)
    {ρ0 : Rho} {h0 : Nat → Blk} (hρ0 : ∀ j i, σ[j]? = some i → ρ0 j = ρ i) (hρ0' : ∀ j, σ.length ≤ j → ρ0 j = none) (hl0 : ∀ j i, σ[j]? = some i → ((h0 j).live ↔ (h i).live)) (hl0' : ∀ j, σ.length ≤ j → ¬ (h0 j).live)
    {Fl : Nat → Prop} (hFl : ∀ b, av F (liveM ρ h) b → (∀ id ∈ σ ++ τ, ∀ n C, ρ id = some ⟨some b, n, C⟩ → ¬ (h id).live) → Fl b)
    {v' : Value} {w' : World} {ρ' : Rho} (hr1 : ∀ j, j < σ.length → ρ' j = ρ0 j) (hr2 : ∀ j, bs0.length ≤ j → ρ' j = none)
    (hH : HeapRel Fl ρ' (blkAt bs0) w') (hv : Rel ρ' (av Fl (liveM ρ' (blkAt bs0))) w' v0 v') (he : Ext (liveM ρ0 h0) w (liveM ρ' (blkAt bs0)) w') :
    ∃ ρc, Post F ρ h w nid (calleeOut σ τ nid v0 bs0) v' w' ρc := by
  -- the caller's names
  let on := outName σ nid
  let ρc : Rho := fun id => if nid ≤ id ∧ id < nid + (bs0.length - σ.length) then ρ' (σ.length + (id - nid)) else ρ id
  have hnew : (calleeOut σ τ nid v0 bs0).new.length = bs0.length - σ.length := by simp [calleeOut, dropB_eq]
  generalize hout : calleeOut σ τ nid v0 bs0 = out at *
  have hwr : out.wr = zipW σ (bs0.map (renB on)) ++ (bif noImm v0 && bs0.all noImmB then [] else τ.map fun i => (i, .dead)) := by subst hout; rfl
  have hnw : out.new = (bs0.map (renB on)).drop σ.length := by subst hout; simp [calleeOut, dropB_eq]; rfl
  have hval : out.val = ren on v0 := by subst hout; rfl
  -- the blocks afterwards
  have H1 : ∀ id, nid ≤ id → id < nid + (bs0.length - σ.length) → outH h nid out id = renB on (blkAt bs0 (σ.length + (id - nid))) := by
    intro id h1 h2
    rw [outH_eq, updW_append, updW_newL h1 (by rw [hnew]; exact h2), hnw, ← blkAt_map]
    rw [blkAt_getD, blkAt_getD]
    simp only [List.getD_eq_getElem?_getD, List.getElem?_drop]
  have Hx : ∀ id, ¬ (nid ≤ id ∧ id < nid + (bs0.length - σ.length)) → outH h nid out id = updW h out.wr id := by
    intro id hid
    rw [outH_eq, updW_append, updW_other (newL_not (by rw [hnew]; exact hid))]
  have H2 : ∀ id j, ¬ (nid ≤ id ∧ id < nid + (bs0.length - σ.length)) → σ[j]? = some id → outH h nid out id = renB on (blkAt bs0 j) := by
    intro id j hid hj
    have hm : id ∈ σ := List.mem_of_getElem? hj
    rw [Hx id hid, hwr, updW_append, updW_other, updW_zipW σ _ h j id hσ (by simpa using hle) hj, blkAt_map]
    intro hx
    cases hc : (noImm v0 && bs0.all noImmB) <;> rw [hc] at hx <;> simp only [cond_true, cond_false, List.map_nil, List.not_mem_nil] at hx
    simp at hx
    exact hdis id hm hx
  have H4 : ∀ id, ¬ (nid ≤ id ∧ id < nid + (bs0.length - σ.length)) → id ∉ σ → (outH h nid out id).live → outH h nid out id = h id ∧ (id ∈ τ → (noImm v0 && bs0.all noImmB) = true) := by
    intro id hid hm hl
    rw [Hx id hid, hwr, updW_append] at hl ⊢
    cases hc : (noImm v0 && bs0.all noImmB) <;> rw [hc] at hl <;> simp only [cond_true, cond_false] at hl ⊢
    · have hτ : id ∉ τ := by
        intro hτ
        rw [updW_dead _ _ _ hτ] at hl
        exact hl
      rw [updW_other (by simpa [Function.comp_def] using hτ), updW_other (fun hx => hm (zipW_fst _ _ _ hx))]
      exact ⟨rfl, fun hx => absurd hx hτ⟩
    · simp only [updW]
      rw [updW_other (fun hx => hm (zipW_fst _ _ _ hx))]
      exact ⟨rfl, fun _ => trivial⟩
  have hliveM : ∀ b, liveM ρ0 h0 b → ∃ i ∈ σ, ∃ n C, ρ i = some ⟨some b, n, C⟩ ∧ (h i).live := by
    rintro b ⟨j, n, C, h1, h2⟩
    rcases Nat.lt_or_ge j σ.length with hj | hj
    · have hi := List.getElem?_eq_getElem hj
      rw [hρ0 j _ hi] at h1
      exact ⟨_, List.mem_of_getElem? hi, n, C, h1, (hl0 j _ hi).mp h2⟩
    · exact absurd h2 (hl0' j hj)
  have hliveM' : ∀ b, liveM ρ0 h0 b → liveM ρ h b := fun b hb => by
    obtain ⟨i, _, n, C, h1, h2⟩ := hliveM b hb
    exact ⟨i, n, C, h1, h2⟩
  have hρc1 : ∀ id, nid ≤ id → id < nid + (bs0.length - σ.length) → ρc id = ρ' (σ.length + (id - nid)) := fun id h1 h2 => if_pos ⟨h1, h2⟩
  have hρc2 : ∀ id, ¬ (nid ≤ id ∧ id < nid + (bs0.length - σ.length)) → ρc id = ρ id := fun id h1 => if_neg h1
  -- where a live block comes from
  have src : ∀ id, (outH h nid out id).live → (∃ j, j < bs0.length ∧ on j = some id ∧ outH h nid out id = renB on (blkAt bs0 j) ∧ ρc id = ρ' j ∧ (blkAt bs0 j).live) ∨
      (id ∉ σ ∧ outH h nid out id = h id ∧ ρc id = ρ id ∧ (h id).live ∧ (id ∈ τ → (noImm v0 && bs0.all noImmB) = true)) := by
    intro id hl
    by_cases hr : nid ≤ id ∧ id < nid + (bs0.length - σ.length)
    · refine .inl ⟨σ.length + (id - nid), by omega, ?_, H1 id hr.1 hr.2, hρc1 id hr.1 hr.2, ?_⟩
      · show outName σ nid _ = _
        rw [outName_ge (by omega)]; congr 1; omega
      · rw [H1 id hr.1 hr.2] at hl; exact renB_live.mp hl
    · by_cases hm : id ∈ σ
      · obtain ⟨j, hj, hij⟩ := List.mem_iff_getElem.mp hm
        have hj' : σ[j]? = some id := by rw [List.getElem?_eq_getElem hj, hij]
        refine .inl ⟨j, by omega, outName_lt hj', H2 id j hr hj', ?_, ?_⟩
        · rw [hρc2 id hr, hr1 j hj, hρ0 j id hj']
        · rw [H2 id j hr hj'] at hl; exact renB_live.mp hl
      · obtain ⟨h1, h2⟩ := H4 id hr hm hl
        exact .inr ⟨hm, h1, hρc2 id hr, h1 ▸ hl, h2⟩
  have hren : ∀ j i p, on j = some i → ρ' j = some p → ρc i = some p := by
    intro j i p hj hp
    have hjl : j < bs0.length := by
      rcases Nat.lt_or_ge j bs0.length with h | h
      · exact h
      · rw [hr2 j h] at hp; cases hp
    rcases Nat.lt_or_ge j σ.length with hlt | hge
    · have hi := List.getElem?_eq_getElem hlt
      have : i = σ[j] := by have := outName_lt (nid := nid) hi; rw [show outName σ nid j = on j from rfl, hj] at this; exact Option.some.inj this
      subst this
      rw [hr1 j hlt, hρ0 j _ hi] at hp
      have hnr : ¬ (nid ≤ σ[j] ∧ σ[j] < nid + (bs0.length - σ.length)) := fun hr => by rw [hn _ hr.1 hr.2] at hp; cases hp
      rw [hρc2 _ hnr]; exact hp
    · have : i = nid + (j - σ.length) := by have := outName_ge (nid := nid) hge; rw [show outName σ nid j = on j from rfl, hj] at this; exact Option.some.inj this
      subst this
      rw [hρc1 _ (by omega) (by omega)]
      have : σ.length + (nid + (j - σ.length) - nid) = j := by omega
      rw [this]; exact hp
  have hsub : Sub ρ ρc := by
    intro id p hp
    have hnr : ¬ (nid ≤ id ∧ id < nid + (bs0.length - σ.length)) := fun hr => by rw [hn _ hr.1 hr.2] at hp; cases hp
    rw [hρc2 id hnr]; exact hp
  have hext : Ext (liveM ρ h) w (liveM ρc (outH h nid out)) w' := by
    refine ⟨he.size, fun b hb hm => he.same b hb (fun hx => hm (hliveM' b hx)), ?_, he.keeps⟩
    rintro b ⟨id, n, C, h1, h2⟩
    rcases src id h2 with ⟨j, _, _, _, h3, h4⟩ | ⟨_, _, h3, h4, _⟩
    · rw [h3] at h1
      exact (he.sub b ⟨j, n, C, h1, h4⟩).imp (hliveM' b) (fun x => x)
    · rw [h3] at h1
      exact .inl ⟨id, n, C, h1, h4⟩
  -- what immutable slices keep off
  have havoid : (noImm v0 && bs0.all noImmB) = true ∨ ∀ b, av F (liveM ρc (outH h nid out)) b → av Fl (liveM ρ' (blkAt bs0)) b := by
    cases hc : (noImm v0 && bs0.all noImmB) with
    | true => exact .inl rfl
    | false =>
      refine .inr (fun b hb => ?_)
      rcases hb with hb | ⟨id, n, C, h1, h2⟩
      · exact .inl (hFl b (.inl hb) (fun id _ n C hp hl => hh.out b ⟨id, n, C, hp, hl⟩ hb))
      · rcases src id h2 with ⟨j, _, _, _, h3, h4⟩ | ⟨hm, _, h3, h4, hτ⟩
        · rw [h3] at h1
          exact .inr ⟨j, n, C, h1, h4⟩
        · rw [h3] at h1
          refine .inl (hFl b (.inr ⟨id, n, C, h1, h4⟩) (fun id' hid' n' C' hp hl => ?_))
          have := hh.inj id' id b n' C' n C hl h4 hp h1
          subst this
          rcases List.mem_append.mp hid' with hx | hx
          · exact hm hx
          · have := hτ hx; rw [hc] at this; cases this
  have hav1 : ∀ {x : V}, ((noImm v0 && bs0.all noImmB) = true → noImm x = true) → ((∀ b, av F (liveM ρc (outH h nid out)) b → av Fl (liveM ρ' (blkAt bs0)) b) ∨ noImm x = true) := fun hx => havoid.elim (fun hc => .inr (hx hc)) .inl
  refine ⟨ρc, hsub, fun id hid => hρc2 id (by rw [hnew] at hid; omega), ⟨?_, ?_, ?_, hh.low' hext, hh.out' hext⟩, ?_, hext⟩
  · intro id p hp
    by_cases hr : nid ≤ id ∧ id < nid + (bs0.length - σ.length)
    · rw [hρc1 id hr.1 hr.2] at hp; exact hH.wf _ _ hp
    · rw [hρc2 id hr] at hp; exact hh.wf _ _ hp
  · intro id hl
    rcases src id hl with ⟨j, hjl, h1, h2, h3, h4⟩ | ⟨hm, h2, h3, h4, _⟩
    · obtain ⟨p, hp, hb⟩ := hH.rel j h4
      refine ⟨p, by rw [h3]; exact hp, ?_⟩
      rw [h2]
      refine BlkRel.ren hren ?_ hb
      rcases havoid with hc | hc
      · refine .inr ?_
        simp only [Bool.and_eq_true, List.all_eq_true] at hc
        refine hc.2 _ ?_
        rw [blkAt_getD, List.getD_eq_getElem?_getD, List.getElem?_eq_getElem hjl]
        exact List.getElem_mem hjl
      · exact .inl hc
    · obtain ⟨p, hp, hb⟩ := hh.rel id h4
      refine ⟨p, by rw [h3]; exact hp, ?_⟩
      rw [h2]
      refine BlkRel.mono hsub hext hb (fun b hb' => ?_)
      obtain ⟨pb, pn, pC⟩ := p
      dsimp only at hb'
      subst hb'
      refine he.same b (liveM.lt hh ⟨id, pn, pC, hp, h4⟩) (fun hx => ?_)
      obtain ⟨i, hi, n, C, h5, h6⟩ := hliveM b hx
      have := hh.inj i id b _ _ _ _ h6 h4 h5 hp
      subst this
      exact hm hi
  · intro i i' b n C n' C' hi hi' hpi hpi'
    have cross : ∀ {j id n C n' C'}, (blkAt bs0 j).live → ρ' j = some ⟨some b, n, C⟩ → id ∉ σ → (h id).live → ρ id = some ⟨some b, n', C'⟩ → False := by
      intro j id n C n' C' h1 h2 h3 h4 h5
      rcases he.sub b ⟨j, n, C, h2, h1⟩ with hx | hx
      · obtain ⟨i, hi, n2, C2, h6, h7⟩ := hliveM b hx
        have := hh.inj i id b _ _ _ _ h7 h4 h6 h5
        subst this
        exact h3 hi
      · have := liveM.lt hh ⟨id, n', C', h5, h4⟩
        omega
    rcases src i hi with ⟨j, _, h1, _, h3, h4⟩ | ⟨hm, _, h3, h4, _⟩ <;> rcases src i' hi' with ⟨j', _, h1', _, h3', h4'⟩ | ⟨hm', _, h3', h4', _⟩ <;> rw [h3] at hpi <;> rw [h3'] at hpi'
    · have := hH.inj j j' b _ _ _ _ h4 h4' hpi hpi'
      subst this
      rw [h1] at h1'
      exact Option.some.inj h1'
    · exact (cross h4 hpi hm' h4' hpi').elim
    · exact (cross h4' hpi' hm h4 hpi).elim
    · exact hh.inj i i' b _ _ _ _ h4 h4' hpi hpi'
  · rw [hval]
    exact Rel.ren hren _ _ (hav1 (fun hc => by simp only [Bool.and_eq_true] at hc; exact hc.1)) hv

theorem call_ok {tab : Nat → Option Entry} (htab : TabOK P tab) (hh : HeapRel F ρ h w) {f : Nat} {args : List V} {vs : List Value} {out : Out} (hc : CallR tab nid f args h out) (hn : ∀ id, nid ≤ id → id < nid + out.new.length → ρ id = none)
    (hr : RelL ρ (av F (liveM ρ h)) w args vs) : Callable P f ∧ Calls P f vs.toArray w fun e w' => ∃ v' ρ', e = .returned v' ∧ Post F ρ h w nid out v' w' ρ' := by
  obtain ⟨e, at_, σ, enc, a, h1, h2, h3, h4, h5, h6, h7, h8, h9⟩ := hc
  have hS := htab f e h1 _ _ a enc h4
  have hσ := nodup_spec σ h7
  have hdis : ∀ j ∈ σ, j ∉ at_.2 := not_meets.mp (by rw [h8]; rfl)
  let ρ0 : Rho := fun j => match σ[j]? with | some i => ρ i | none => none
  let Fl : Nat → Prop := fun b => av F (liveM ρ h) b ∧ ∀ id ∈ σ ++ at_.2, ∀ n C, ρ id = some ⟨some b, n, C⟩ → ¬ (h id).live
  have hρ0 : ∀ j i, σ[j]? = some i → ρ0 j = ρ i := fun j i hj => by simp only [ρ0, hj]
  have hρ0' : ∀ j, σ.length ≤ j → ρ0 j = none := fun j hj => by simp only [ρ0, List.getElem?_eq_none hj]
  have hb0 : ∀ j i, σ[j]? = some i → blkAt (σ.map fun i => renB (place · σ 0) (h i)) j = renB (place · σ 0) (h i) := fun j i hj => by
    rw [blkAt_getD, List.getD_eq_getElem?_getD, List.getElem?_map, hj]; rfl
  have hb0' : ∀ j, σ.length ≤ j → blkAt (σ.map fun i => renB (place · σ 0) (h i)) j = .dead := fun j hj => by
    rw [blkAt_getD, List.getD_eq_getElem?_getD, List.getElem?_map, List.getElem?_eq_none hj]; rfl
  have hl0 : ∀ j i, σ[j]? = some i → ((blkAt (σ.map fun i => renB (place · σ 0) (h i)) j).live ↔ (h i).live) := fun j i hj => by rw [hb0 j i hj]; exact renB_live
  have hl0' : ∀ j, σ.length ≤ j → ¬ (blkAt (σ.map fun i => renB (place · σ 0) (h i)) j).live := fun j hj => by rw [hb0' j hj]; exact id
  have hren : ∀ i j p, place i σ 0 = some j → ρ i = some p → ρ0 j = some p := fun i j p hj hp => by
    have := (place_spec σ i 0 j hj).2
    rw [hρ0 j i (by simpa using this)]; exact hp
  generalize hbs : (σ.map fun i => renB (place · σ 0) (h i)) = bs at *
  have hlen : bs.length = σ.length := by subst hbs; simp
  have hlm : ∀ b, liveM ρ0 (blkAt bs) b → ∃ i ∈ σ, ∃ n C, ρ i = some ⟨some b, n, C⟩ ∧ (h i).live := by
    rintro b ⟨j, n, C, g1, g2⟩
    rcases Nat.lt_or_ge j σ.length with hj | hj
    · have hi := List.getElem?_eq_getElem hj
      rw [hρ0 j _ hi] at g1
      exact ⟨_, List.mem_of_getElem? hi, n, C, g1, (hl0 j _ hi).mp g2⟩
    · exact absurd g2 (hl0' j hj)
  have hM : ∀ b, av Fl (liveM ρ0 (blkAt bs)) b → av F (liveM ρ h) b := by
    rintro b (hb | hb)
    · exact hb.1
    · obtain ⟨i, _, n, C, g1, g2⟩ := hlm b hb
      exact .inr ⟨i, n, C, g1, g2⟩
  have hH : HeapRel Fl ρ0 (blkAt bs) w := by
    have hex : ∀ j, (blkAt bs j).live → ∃ i, σ[j]? = some i := fun j hl => by
      rcases Nat.lt_or_ge j σ.length with hj | hj
      · exact ⟨_, List.getElem?_eq_getElem hj⟩
      · exact absurd hl (hl0' j hj)
    refine ⟨?_, ?_, ?_, ?_, ?_⟩
    · intro j p hp
      rcases Nat.lt_or_ge j σ.length with hj | hj
      · rw [hρ0 j _ (List.getElem?_eq_getElem hj)] at hp; exact hh.wf _ _ hp
      · rw [hρ0' j hj] at hp; cases hp
    · intro j hl
      obtain ⟨i, hi⟩ := hex j hl
      obtain ⟨p, hp, hb⟩ := hh.rel i ((hl0 j i hi).mp hl)
      refine ⟨p, by rw [hρ0 j i hi]; exact hp, ?_⟩
      rw [hb0 j i hi]
      exact BlkRel.ren hren (.inl hM) hb
    · intro j j' b n C n' C' hl hl' hp hp'
      obtain ⟨i, hi⟩ := hex j hl
      obtain ⟨i', hi'⟩ := hex j' hl'
      rw [hρ0 j i hi] at hp
      rw [hρ0 j' i' hi'] at hp'
      have := hh.inj i i' b _ _ _ _ ((hl0 j i hi).mp hl) ((hl0 j' i' hi').mp hl') hp hp'
      subst this
      have hj : j < σ.length := (List.getElem?_eq_some_iff.mp hi).1
      exact (List.getElem?_inj hj hσ).mp (by rw [hi, hi'])
    · rintro b ⟨hb, _⟩
      rcases hb with hb | hb
      · exact hh.low b hb
      · exact liveM.lt hh hb
    · intro b hb hf
      obtain ⟨i, hi, n, C, g1, g2⟩ := hlm b hb
      exact hf.2 i (by simp [hi]) n C g1 g2
  have hargs : RelL ρ (av Fl (liveM ρ0 (blkAt bs))) w at_.1 vs := by
    have := immArgs_ok (Ml := av Fl (liveM ρ0 (blkAt bs))) hh hM e.imm args vs ?_ hr
    · rw [h2] at this; exact this
    · rw [h2]
      intro id hid b n C hp hl hx
      rcases hx with hx | hx
      · exact hx.2 id (by simp [hid]) n C hp hl
      · obtain ⟨i, hi, n', C', g1, g2⟩ := hlm b hx
        have := hh.inj i id b _ _ _ _ g2 hl g1 hp
        subst this
        exact hdis i hi hid
  refine ⟨hS.callable, Calls.mono (hS.calls Fl ρ0 w vs hH (fun id hid => hρ0' id (by omega)) (RelL.ren hren _ _ (.inl (fun b hb => hb)) hargs)) ?_⟩
  rintro e' w' ⟨v', he', ρ', g1, g2, g3, g4, g5⟩
  have hnew : out.new.length = (enc a).pick.2.length - σ.length := by rw [h9]; simp [calleeOut, dropB_eq]
  obtain ⟨ρc, hpost⟩ := back_ok (nid := nid) hh (v0 := (enc a).pick.1) (bs0 := (enc a).pick.2) (fun id k1 k2 => hn id k1 (by omega)) hσ h6 hdis hρ0 hρ0' hl0 hl0' (Fl := Fl) (fun b k1 k2 => ⟨k1, k2⟩) (fun j hj => g1 j (by omega)) g2 g3 g4 g5
  rw [← h9] at hpost
  exact ⟨v', ρc, he', hpost⟩

end
end Go.Proofs.Ytlofhdoefjmabaa.Ev

/-
  The evaluator's steps and regions are sound. (A text of ours; no condition.)
-/
namespace Go.Proofs.Ytlofhdoefjmabaa.Ev
set_option linter.unusedVariables false
set_option linter.unusedSimpArgs false

structure EnvOK (P : Program) (E : Env) : Prop where
  ty : TyOK P E.ty
  tab : TabOK P E.tab

/-- A state reads so in a frame and a world. -/
structure Rep (E : Env) (F : Nat → Prop) (ρ : Rho) (T : Nat → V) (h : Nat → Blk) (a : Act) (w : World) : Prop where
  heap : HeapRel F ρ h w
  tmps : ∀ t, Rel ρ (av F (liveM ρ h)) w (T t) (a.eval (.tmp t))
  size : a.tmps.size = E.ntmps
  defers : a.defers = []

theorem vconst_ok {ρ : Rho} {M : Nat → Prop} {w : World} (v : Value) : Rel ρ M w (vconst v) v := by
  unfold vconst
  split
  · rename_i cs
    simp only [Rel]
    refine ⟨cs, rfl, ?_⟩
    generalize cs.toList = l
    induction l with
    | nil => simp [RelL]
    | cons x l ih => simp only [List.map_cons, RelL, Rel]; exact ⟨trivial, ih⟩
  · simp only [Rel]

section
variable {P : Program} {E : Env} {F : Nat → Prop} {ρ : Rho} {T : Nat → V} {h : Nat → Blk} {a : Act} {w : World}

theorem Rep.ev (hr : Rep E F ρ T h a w) (x : Operand) : Rel ρ (av F (liveM ρ h)) w (evF T x) (a.eval x) := by
  cases x with
  | tmp t => exact hr.tmps t
  | const v => exact vconst_ok v
  | global g => simp only [evF, Rel]
  | func f => simp only [evF, Rel, Act.eval]; exact ⟨#[], #[], rfl, by simp [RelL], by simp [RelL]⟩

theorem Rep.put {ρ' : Rho} {h' : Nat → Blk} {w' : World} (hr : Rep E F ρ T h a w) (hs : Sub ρ ρ') (hh : HeapRel F ρ' h' w') (he : Ext (liveM ρ h) w (liveM ρ' h') w') {d : Option Nat} (hd : dstOk E.ntmps d = true) {x : V} {v : Value} (hx : Rel ρ' (av F (liveM ρ' h')) w' x v) :
    Rep E F ρ' (putF T d x) h' (a.put d v) w' := by
  have hm : ∀ t, Rel ρ' (av F (liveM ρ' h')) w' (T t) (a.eval (.tmp t)) := fun t => Rel.mono hs he _ _ (hr.tmps t)
  cases d with
  | none => exact ⟨hh, hm, hr.size, hr.defers⟩
  | some d =>
    have hlt : d < a.tmps.size := by rw [hr.size]; exact blt_lt hd
    refine ⟨hh, fun t => ?_, by simp [Act.put, hr.size], hr.defers⟩
    simp only [putF, Act.put, Act.eval]
    by_cases ht : t = d
    · subst ht
      rw [if_pos rfl, Array.getD_eq_getD_getElem?, Array.getElem?_setIfInBounds_self_of_lt hlt]
      exact hx
    · rw [if_neg ht, Array.getD_eq_getD_getElem?, Array.getElem?_setIfInBounds_ne (Ne.symm ht), ← Array.getD_eq_getD_getElem?]
      exact hm t

theorem want_ok {all : Array Oper} (hr : Rep E F ρ T h a w) {o : Oper} {b : Bool} (hw : wantF all.toList T o = some b) : Region.wanted o (yielded all a.tmps) = b := by
  unfold wantF at hw
  unfold Region.wanted
  cases hg : o.guard with
  | none => rw [hg] at hw; simp only [Option.some.injEq] at hw; exact hw
  | some gw =>
    obtain ⟨j, want⟩ := gw
    rw [hg] at hw
    dsimp only at hw ⊢
    unfold yielded
    rw [Array.getElem?_toList] at hw
    cases hd : (all[j]?).bind (·.dst) with
    | none => rw [hd] at hw; cases hw
    | some g =>
      rw [hd] at hw
      dsimp only at hw
      have hv := hr.tmps g
      simp only [Option.bind_some]
      split at hw
      · rename_i b' hb
        rw [hb] at hv
        simp only [Rel, Act.eval] at hv
        simp only [Option.some.injEq] at hw
        rw [Array.getD_eq_getD_getElem?] at hv
        cases ht : a.tmps[g]? with
        | none => rw [ht] at hv; cases hv
        | some u =>
          rw [ht] at hv
          simp only [Option.getD_some] at hv
          subst hv
          rw [← hw]
          cases b' <;> cases want <;> rfl
      · rename_i vs hb
        rw [hb] at hv
        simp only [Rel, Act.eval] at hv
        simp only [Option.some.injEq] at hw
        rw [Array.getD_eq_getD_getElem?] at hv
        rw [← hw]
        cases ht : a.tmps[g]? with
        | none => rfl
        | some u =>
          rw [ht] at hv
          simp only [Option.getD_some] at hv
          subst hv
          rfl
      · cases hw

theorem RelL.map_evF {xs : List Operand} (hr : Rep E F ρ T h a w) : RelL ρ (av F (liveM ρ h)) w (xs.map (evF T)) (xs.map a.eval) := by
  induction xs with
  | nil => simp [RelL]
  | cons x xs ih => simp only [List.map_cons, RelL]; exact ⟨hr.ev x, ih⟩

theorem run_call {o : Oper} {f : Operand} {args : Array Operand} {ts : Array TypeId} {g : FuncId} {va vc : Array Value} (ho : o.op = .call ⟨.value f, args, ts⟩) (hf : a.eval f = .func (.func g) va vc) (hc : Callable P g) :
    (execOp a.eval o).run P w = .ok (.enter g (va ++ args.map a.eval ++ vc)) w := by
  obtain ⟨fn, h1, h2, h3⟩ := hc
  have h4 : fn.name ≠ "runtime.NumGoroutine" := by simpa using h3
  cases hb : fn.body with
  | none => rw [hb] at h2; cases h2
  | some c =>
    unfold execOp
    rw [ho]
    simp [resolve, Deferred.ofValue, hf, invoke, callFunc, h1, h4, hb]

/-- What is left of a region holds in the frame and the world. -/
def RegI (E : Env) (F : Nat → Prop) (len base : Nat) (ρ0 : Rho) (M0 : Nat → Prop) (w0 : World) (T : Nat → V) (h : Nat → Blk) (rem : List Item) (a : Act) (w : World) : Prop :=
  ∃ ρ, Rep E F ρ T h a w ∧ (∀ x ∈ rem, ∀ id, x.nid ≤ id → id < x.nid + room E.tab x.o.op → ρ id = none) ∧ rem.Pairwise (fun x y => x.nid + room E.tab x.o.op ≤ y.nid) ∧
    (∀ id, len ≤ id → ρ id = none) ∧ (∀ id, id < base → ρ id = ρ0 id) ∧ (∀ x ∈ rem, base ≤ x.nid) ∧ Ext M0 w0 (liveM ρ h) w

theorem RegI.next {len base : Nat} {ρ0 : Rho} {M0 : Nat → Prop} {w0 : World} {pre post : List Item} {x : Item} (hr : Rep E F ρ T h a w)
    (h1 : ∀ y ∈ pre ++ x :: post, ∀ id, y.nid ≤ id → id < y.nid + room E.tab y.o.op → ρ id = none) (h2 : (pre ++ x :: post).Pairwise (fun x y => x.nid + room E.tab x.o.op ≤ y.nid))
    (h3 : ∀ id, len ≤ id → ρ id = none) (h4 : ∀ id, id < base → ρ id = ρ0 id) (h5 : ∀ y ∈ pre ++ x :: post, base ≤ y.nid) (h6 : Ext M0 w0 (liveM ρ h) w)
    (hd : dstOk E.ntmps x.o.dst = true) {out : Out} (hn : out.new.length ≤ room E.tab x.o.op) (hl : x.nid + room E.tab x.o.op ≤ len) {v : Value} {w' : World} {ρ' : Rho} (hp : Post F ρ h w x.nid out v w' ρ') :
    RegI E F len base ρ0 M0 w0 (putF T x.o.dst out.val) (updW h (out.wr ++ newL x.nid out.new)) (pre ++ post) (a.put x.o.dst v) w' := by
  obtain ⟨p1, p2, p3, p4, p5⟩ := hp
  rw [outH_eq] at p3 p4 p5
  rw [List.pairwise_append] at h2
  obtain ⟨q1, q2, q3⟩ := h2
  rw [List.pairwise_cons] at q2
  refine ⟨ρ', hr.put p1 p3 p5 hd p4, ?_, ?_, ?_, ?_, ?_, h6.trans p5⟩
  · intro y hy id k1 k2
    rcases List.mem_append.mp hy with hy | hy
    · have := q3 y hy x (by simp)
      rw [p2 id (by omega)]
      exact h1 y (by simp [hy]) id k1 k2
    · have := q2.1 y hy
      rw [p2 id (by omega)]
      exact h1 y (by simp [hy]) id k1 k2
  · rw [List.pairwise_append]
    exact ⟨q1, q2.2, fun y hy z hz => q3 y hy z (by simp [hz])⟩
  · intro id hid
    rw [p2 id (by omega)]; exact h3 id hid
  · intro id hid
    have := h5 x (by simp)
    rw [p2 id (by omega)]; exact h4 id hid
  · intro y hy
    refine h5 y ?_
    simp only [List.mem_append, List.mem_cons] at hy ⊢
    rcases hy with hy | hy <;> simp [hy]

theorem step_ok (hE : EnvOK P E) {ops : Array Oper} {Q : Exit → Act → World → Prop} {len base : Nat} {ρ0 : Rho} {M0 : Nat → Prop} {w0 : World} {pre post : List Item} {x : Item} {r : Row} {K : Act → World → Prop}
    (hc : CoreR E ops.toList len x T h r) (hI : RegI E F len base ρ0 M0 w0 T h (pre ++ x :: post) a w) (hx : ops[x.i]? = some x.o)
    (hK : ∀ a' w', RegI E F len base ρ0 M0 w0 (putF T x.o.dst r.v) (updW h r.ups) (pre ++ post) a' w' → K a' w') : wpOp P ops Q x.i K a w := by
  obtain ⟨ρ, hr, h1, h2, h3, h4, h5, h6⟩ := hI
  obtain ⟨c1, hd, ⟨hw, out, hex, rfl, hn, hl, _⟩ | ⟨hw, rfl⟩⟩ := hc
  · unfold wpOp
    rw [hx]
    dsimp only
    rw [want_ok hr hw, if_pos rfl]
    refine .inl ?_
    unfold Oper.wp
    have hslot : ∀ id, x.nid ≤ id → id < x.nid + out.new.length → ρ id = none := fun id k1 k2 => h1 x (by simp) id k1 (by omega)
    rcases hex with ⟨f, args, ts, g, first, cap, e1, e2, e3⟩ | hact
    · have hf := hr.ev f
      rw [e2] at hf
      simp only [Rel] at hf
      obtain ⟨va, vc, f1, f2, f3⟩ := hf
      have hargs : RelL ρ (av F (liveM ρ h)) w (first ++ (args.toList.map (evF T) ++ cap)) (va.toList ++ (args.toList.map a.eval ++ vc.toList)) :=
        f2.append ((RelL.map_evF hr).append f3)
      obtain ⟨hcal, hcalls⟩ := call_ok hE.tab hr.heap e3 hslot hargs
      rw [run_call e1 f1 hcal, Oper.upon_enter]
      have hav : (va ++ args.map a.eval ++ vc) = (va.toList ++ (args.toList.map a.eval ++ vc.toList)).toArray := by
        apply Array.toList_inj.mp; simp
      rw [hav]
      refine Calls.mono hcalls ?_
      rintro e w' ⟨v', ρ', rfl, hp⟩
      exact hK _ _ (RegI.next hr h1 h2 h3 h4 h5 h6 hd hn hl hp)
    · obtain ⟨v, w', ρ', hrun, p⟩ := act_ok (P := P) hE.ty hr.heap hr.ev hslot x.o.op x.o rfl hact
      rcases hrun with hrun | ⟨hrun, rfl⟩
      · rw [hrun, Oper.upon_value]
        exact hK _ _ (RegI.next hr h1 h2 h3 h4 h5 h6 hd hn hl p)
      · rw [hrun, Oper.upon_skip]
        exact hK _ _ (RegI.next hr h1 h2 h3 h4 h5 h6 hd hn hl p)
  · unfold wpOp
    rw [hx]
    dsimp only
    rw [want_ok hr hw]
    simp only [Bool.false_eq_true, if_false]
    refine hK _ _ ⟨ρ, hr.put (Sub.refl _) hr.heap (Ext.refl _ _) hd (by simp only [undefV, Rel]; rfl), ?_, ?_, h3, h4, ?_, h6⟩
    · intro y hy; refine h1 y ?_; simp only [List.mem_append, List.mem_cons] at hy ⊢; rcases hy with hy | hy <;> simp [hy]
    · exact h2.sublist (List.Sublist.append_left (List.sublist_cons_self _ _) _)
    · intro y hy; refine h5 y ?_; simp only [List.mem_append, List.mem_cons] at hy ⊢; rcases hy with hy | hy <;> simp [hy]

theorem items_i (tab : Nat → Option Entry) : ∀ (ops : List Oper) (i nid : Nat), (items tab i nid ops).map (·.i) = (List.range ops.length).map (i + ·)
  | [], _, _ => rfl
  | o :: r, i, nid => by
    simp only [items, List.map_cons, List.length_cons, List.range_succ_eq_map, List.map_map, items_i tab r]
    simp [Function.comp_def, Nat.add_assoc, Nat.add_comm 1]

theorem items_o (tab : Nat → Option Entry) : ∀ (ops : List Oper) (i nid : Nat), ∀ x ∈ items tab i nid ops, i ≤ x.i ∧ ops[x.i - i]? = some x.o
  | [], _, _, x, hx => by simp [items] at hx
  | o :: r, i, nid, x, hx => by
    simp only [items, List.mem_cons] at hx
    rcases hx with rfl | hx
    · simp
    · obtain ⟨h1, h2⟩ := items_o tab r _ _ x hx
      refine ⟨by omega, ?_⟩
      have : x.i - i = (x.i - (i + 1)) + 1 := by omega
      rw [this]; simpa using h2

theorem items_nid (tab : Nat → Option Entry) : ∀ (ops : List Oper) (i nid : Nat), (∀ x ∈ items tab i nid ops, nid ≤ x.nid) ∧ (items tab i nid ops).Pairwise (fun x y => x.nid + room tab x.o.op ≤ y.nid)
  | [], _, _ => ⟨by simp [items], by simp [items]⟩
  | o :: r, i, nid => by
    obtain ⟨h1, h2⟩ := items_nid tab r (i + 1) (nid + room tab o.op)
    simp only [items]
    refine ⟨fun x hx => ?_, List.pairwise_cons.mpr ⟨fun y hy => h1 y hy, h2⟩⟩
    rcases List.mem_cons.mp hx with rfl | hx
    · exact Nat.le_refl _
    · exact Nat.le_trans (Nat.le_add_right _ _) (h1 x hx)

theorem Rep.heq {w' : World} (hr : Rep E F ρ T h a w) (he : w'.heap = w.heap) : Rep E F ρ T h a w' :=
  ⟨hr.heap.heq he, fun t => Rel.world he _ _ (hr.tmps t), hr.size, hr.defers⟩

theorem Trp.rows {len : Nat} {all : List Oper} : ∀ (L : List (Item × Row)) (T : Nat → V) (h : Nat → Blk) {T' : Nat → V} {h' : Nat → Blk}, Trp E all len L T h T' h' → ∀ p ∈ L, p.2.i = p.1.i
  | [], _, _, _, _, _, p, hp => by simp at hp
  | q :: L, T, h, _, _, ht, p, hp => by
    rcases List.mem_cons.mp hp with rfl | hp
    · exact ht.1.1
    · exact Trp.rows L _ _ ht.2 p hp

theorem blkAt_dead (H : List Blk) (n : Nat) : blkAt (H ++ List.replicate n .dead) = blkAt H := by
  funext j
  rw [blkAt_getD, blkAt_getD]
  simp only [List.getD_eq_getElem?_getD, List.getElem?_append, List.getElem?_replicate]
  by_cases hj : j < H.length
  · rw [if_pos hj]
  · rw [if_neg hj, List.getElem?_eq_none (by omega)]; split <;> rfl

/-- A region. -/
theorem region_ok (hE : EnvOK P E) (hmix : P.follows .mixedOrders = true) {id : Nat} {ops : Array Oper} {draw : Bool} {s : St} {R : Type} {k : St → Option R} {r : R} (hr : evRegion E ops draw s k = some r) :
    ∃ s', k s' = some r ∧ s.H.length ≤ s'.H.length ∧ ∀ F ρ a w Q, Rep E F ρ (look s.T) (blkAt s.H) a w → (∀ j, s.H.length ≤ j → ρ j = none) →
      (∀ ρ' a' w', Rep E F ρ' (look s'.T) (blkAt s'.H) a' w' → (∀ j, s'.H.length ≤ j → ρ' j = none) → (∀ j, j < s.H.length → ρ' j = ρ j) → Ext (liveM ρ (blkAt s.H)) w (liveM ρ' (blkAt s'.H)) w' → Q .normal a' w') →
      (Code.region id ops draw).wp P Q a w := by
  unfold evRegion at hr
  obtain ⟨rs, T', H', ht, hlen, hk⟩ := evOps_some _ _ _ _ _ _ hr
  obtain ⟨hok, hk⟩ := cond_some hk
  rw [blkAt_dead] at ht
  obtain ⟨L, l1, l2, l3⟩ := ht.pairs
  simp only [List.length_append, List.length_replicate] at hlen l3
  refine ⟨⟨T', H'⟩, hk, by dsimp only; omega, ?_⟩
  intro F ρ a w Q hrep hnone hQ
  obtain ⟨n1, n2⟩ := items_nid E.tab ops.toList 0 s.H.length
  have ho : ∀ p ∈ L, ops[p.1.i]? = some p.1.o := by
    intro p hp
    have hm : p.1 ∈ items E.tab 0 s.H.length ops.toList := by rw [← l1]; exact List.mem_map_of_mem hp
    have := (items_o _ _ _ _ _ hm).2
    simpa using this
  have hI : ∀ w2 : World, w2.heap = w.heap → Keeps w w2 → RegI E F (s.H.length + roomOps E.tab ops.toList) s.H.length ρ (liveM ρ (blkAt s.H)) w (look s.T) (blkAt s.H) (L.map (·.1)) a w2 := by
    intro w2 hw2 hk2
    rw [l1]
    exact ⟨ρ, hrep.heq hw2, fun x hx id h1 h2 => hnone id (Nat.le_trans (n1 x hx) h1), n2, fun id hid => hnone id (by omega), fun _ _ => rfl, n1, Ext.heq hw2 hk2⟩
  have hfin : ∀ a' w', RegI E F (s.H.length + roomOps E.tab ops.toList) s.H.length ρ (liveM ρ (blkAt s.H)) w (look T') (blkAt H') [] a' w' → Q .normal a' w' := by
    rintro a' w' ⟨ρ', r1, _, _, r2, r3, _, r4⟩
    exact hQ ρ' a' w' r1 (fun j hj => r2 j (by dsimp only at hj; omega)) r3 r4
  have hmi : L.map (·.1.i) = List.range ops.size := by
    have : L.map (·.1.i) = (L.map (·.1)).map (·.i) := by simp [List.map_map, Function.comp_def]
    rw [this, l1, items_i]; simp
  cases draw with
  | false =>
    refine wp_region ?_
    rw [← hmi]
    exact wpOps_of (RegI E F _ s.H.length ρ (liveM ρ (blkAt s.H)) w) (fun T h pre x post r a w K hc hI hx hK => step_ok hE hc hI hx hK) hfin L _ _ a w l3 (hI w rfl (.refl _)) ho
  | true =>
    simp only [Bool.not_true, Bool.false_or, Bool.and_eq_true] at hok
    obtain ⟨⟨k1, k2⟩, k3⟩ := hok
    refine wp_region_any hmix ?_
    refine wpAny_of (RegI E F _ s.H.length ρ (liveM ρ (blkAt s.H)) w) (fun T h pre x post r a w K hc hI hx hK => step_ok hE hc hI hx hK) k1 hfin ops.size _ L _ _ a _ l3 (hI _ rfl ⟨rfl, rfl, rfl, by first | exact Nat.le_refl _ | exact Nat.le_succ _ | exact Nat.le_add_right _ _⟩) ?_ (by simp) ?_ ho (l3.rows) ?_ ?_
    · have := congrArg List.length hmi; simp at this; omega
    · rw [hmi]; symm; rw [List.filter_eq_self]
      intro i hi
      simp only [List.mem_range] at hi
      simp [Array.getD_eq_getD_getElem?, hi]
    · have hp := okDraw_pairwise _ k3
      rw [List.append_nil, List.pairwise_reverse, ← l2, List.map_map, List.pairwise_map] at hp
      exact hp
    · intro j o hj
      rw [Array.getD_eq_getD_getElem?] at hj
      simp [Array.getElem?_replicate] at hj
      split at hj <;> simp_all

end
end Go.Proofs.Ytlofhdoefjmabaa.Ev

/-
  The evaluator's forms of states (at loops, at returns) are sound. (A text of ours; no condition.)
-/
namespace Go.Proofs.Ytlofhdoefjmabaa.Ev
set_option linter.unusedVariables false
set_option linter.unusedSimpArgs false

mutual
theorem Rel.agree {ρ ρ' : Rho} {M : Nat → Prop} {w : World} : ∀ (x : V) (v : Value), (∀ i ∈ refs x, ∀ p, ρ i = some p → ρ' i = some p) → Rel ρ M w x v → Rel ρ' M w x v
  | .c _, _, _, h => by simpa only [Rel] using h
  | .poison, _, _, _ => by simp only [Rel]
  | .ptr id _ _, _, hm, h => by
    simp only [Rel] at h ⊢
    obtain ⟨b, n, C, h1, h2, h3⟩ := h
    exact ⟨b, n, C, hm id (by simp [refs]) _ h1, h2, h3⟩
  | .sw id _, _, hm, h => by
    simp only [Rel] at h ⊢
    obtain ⟨h0, ⟨b, n, C, cap, h1, h2⟩ | ⟨h1, h2⟩⟩ := h
    · exact ⟨h0, .inl ⟨b, n, C, cap, hm id (by simp [refs]) _ h1, h2⟩⟩
    · exact ⟨h0, .inr ⟨hm id (by simp [refs]) _ h1, h2⟩⟩
  | .sl id _ _ _, _, hm, h => by
    simp only [Rel] at h ⊢
    obtain ⟨h0, ⟨b, n, C, cap, h1, h2⟩ | ⟨h1, h2⟩⟩ := h
    · exact ⟨h0, .inl ⟨b, n, C, cap, hm id (by simp [refs]) _ h1, h2⟩⟩
    · exact ⟨h0, .inr ⟨h1, h2⟩⟩
  | .mref id, _, hm, h => by
    simp only [Rel] at h ⊢
    obtain ⟨b, h1, h2⟩ := h
    exact ⟨b, hm id (by simp [refs]) _ h1, h2⟩
  | .il _ _ _, _, _, h => by simpa only [Rel] using h
  | .iv _ _, _, _, h => by simpa only [Rel] using h
  | .ilp _ _ _ _, _, _, h => by simpa only [Rel] using h
  | .ivp _ _ _ _, _, _, h => by simpa only [Rel] using h
  | .agg cs, _, hm, h => by
    simp only [Rel] at h ⊢
    obtain ⟨vs, h1, h2⟩ := h
    exact ⟨vs, h1, RelL.agree cs _ (fun i hi => hm i (by simpa only [refs] using hi)) h2⟩
  | .tup cs, _, hm, h => by
    simp only [Rel] at h ⊢
    obtain ⟨vs, h1, h2⟩ := h
    exact ⟨vs, h1, RelL.agree cs _ (fun i hi => hm i (by simpa only [refs] using hi)) h2⟩
  | .fn _ a c, _, hm, h => by
    simp only [Rel] at h ⊢
    obtain ⟨va, vc, h1, h2, h3⟩ := h
    exact ⟨va, vc, h1, RelL.agree a _ (fun i hi => hm i (by simp only [refs, List.mem_append]; exact .inl hi)) h2, RelL.agree c _ (fun i hi => hm i (by simp only [refs, List.mem_append]; exact .inr hi)) h3⟩
theorem RelL.agree {ρ ρ' : Rho} {M : Nat → Prop} {w : World} : ∀ (x : List V) (v : List Value), (∀ i ∈ refsL x, ∀ p, ρ i = some p → ρ' i = some p) → RelL ρ M w x v → RelL ρ' M w x v
  | [], [], _, _ => by simp only [RelL]
  | x :: xs, v :: vs, hm, h => by
    simp only [RelL] at h ⊢
    exact ⟨Rel.agree x v (fun i hi => hm i (by simp only [refsL, List.mem_append]; exact .inl hi)) h.1, RelL.agree xs vs (fun i hi => hm i (by simp only [refsL, List.mem_append]; exact .inr hi)) h.2⟩
  | [], _ :: _, _, h => by simp only [RelL] at h
  | _ :: _, [], _, h => by simp only [RelL] at h
end

theorem refsL_il (k : IntKind) (s : Nat) : ∀ rows : List (List Int), refsL (rows.map (.il k s)) = []
  | [] => rfl
  | _ :: r => by simp only [List.map_cons, refsL, refs, refsL_il k s r, List.append_nil]
theorem BlkRel.agree {ρ ρ' : Rho} {M : Nat → Prop} {w : World} {p : Pl} {x : Blk} (hm : ∀ i ∈ refsB x, ∀ p, ρ i = some p → ρ' i = some p) (h : BlkRel ρ M w p x) : BlkRel ρ' M w p x := by
  cases x with
  | dead => trivial
  | ints k l => exact h
  | mp k n ks vs => exact h
  | it mid cnt rem cur =>
    obtain ⟨h1, h2, b, mb, seen, h4, h5, h6, h7⟩ := h
    exact ⟨h1, h2, b, mb, seen, h4, h5, fun i hi => hm i (by subst hi; simp [refsB]) _ (h6 i hi), h7⟩
  | vals cs =>
    obtain ⟨h1, h2 | ⟨b, c, h2, h3, h4, h5⟩⟩ := h
    · exact ⟨h1, .inl h2⟩
    · exact ⟨h1, .inr ⟨b, c, h2, h3, h4, RelL.agree _ _ (fun i hi => hm i hi) h5⟩⟩
  | nl k s rows =>
    obtain ⟨h1, h2 | ⟨b, c, h2, h3, h4, h5⟩⟩ := h
    · exact ⟨h1, .inl h2⟩
    · exact ⟨h1, .inr ⟨b, c, h2, h3, h4, RelL.agree _ _ (fun i hi => by rw [refsL_il] at hi; cases hi) h5⟩⟩

theorem BlkRel.avoid {ρ : Rho} {M M' : Nat → Prop} {w : World} (hM : ∀ b, M' b → M b) {p : Pl} {x : Blk} (h : BlkRel ρ M w p x) : BlkRel ρ M' w p x := by
  cases x with
  | dead => trivial
  | ints k l => exact h
  | mp k n ks vs => exact h
  | it mid cnt rem cur => exact h
  | vals cs =>
    obtain ⟨h1, h2 | ⟨b, c, h2, h3, h4, h5⟩⟩ := h
    · exact ⟨h1, .inl h2⟩
    · exact ⟨h1, .inr ⟨b, c, h2, h3, h4, RelL.avoid hM _ _ h5⟩⟩
  | nl k s rows =>
    obtain ⟨h1, h2 | ⟨b, c, h2, h3, h4, h5⟩⟩ := h
    · exact ⟨h1, .inl h2⟩
    · exact ⟨h1, .inr ⟨b, c, h2, h3, h4, RelL.avoid hM _ _ h5⟩⟩

theorem isEmpty_refs {l : List Nat} (h : l.isEmpty = true) : ∀ i, i ∉ l := by
  intro i hi
  cases l with
  | nil => cases hi
  | cons => cases h

/-- The new names follow the old ones. -/
structure Cons (ρ ρ' : Rho) (src : List (Option Nat)) : Prop where
  old : ∀ (j id : Nat), src[j]? = some (some id) → ρ' j = ρ id
  nil : ∀ j : Nat, src[j]? = some none → ρ' j = some ⟨none, 0, 0⟩

/-- Nothing yet. -/
def Hollow (x : Blk) : Prop := (∃ k, x = .ints k []) ∨ ∃ k s, x = .nl k s []

structure AccOK (h : Nat → Blk) (a : Acc) : Prop where
  len : a.src.length = a.blks.length
  nodup : ∀ (i j id : Nat), a.src[i]? = some (some id) → a.src[j]? = some (some id) → i = j
  virt : ∀ j : Nat, a.src[j]? = some none → ∃ x, a.blks[j]? = some x ∧ Hollow x
  live : ∀ (j id : Nat) (x : Blk), a.src[j]? = some (some id) → a.blks[j]? = some x → x.live → (h id).live

def BlksOK (h : Nat → Blk) (ρ ρ' : Rho) (M : Nat → Prop) (w : World) (a : Acc) : Prop :=
  ∀ (j id : Nat) (x : Blk) (p : Pl), a.src[j]? = some (some id) → a.blks[j]? = some x → ρ id = some p → BlkRel ρ M w p (h id) → BlkRel ρ' M w p x

theorem findSrc_spec {id : Nat} : ∀ (src : List (Option Nat)) (n j : Nat), findSrc id src n = some j → n ≤ j ∧ src[j - n]? = some (some id)
  | [], n, j, h => by simp [findSrc] at h
  | some x :: r, n, j, h => by
    simp only [findSrc] at h
    cases hb : Nat.beq x id <;> rw [hb] at h <;> simp only [cond_true, cond_false] at h
    · obtain ⟨h1, h2⟩ := findSrc_spec r (n + 1) j h
      have : j - n = (j - (n + 1)) + 1 := by omega
      exact ⟨by omega, by rw [this]; simpa using h2⟩
    · simp only [Option.some.injEq] at h
      subst h
      have := beq_eq hb
      subst this
      simp
  | none :: r, n, j, h => by
    simp only [findSrc] at h
    obtain ⟨h1, h2⟩ := findSrc_spec r (n + 1) j h
    have : j - n = (j - (n + 1)) + 1 := by omega
    exact ⟨by omega, by rw [this]; simpa using h2⟩

theorem findSrc_snoc {id mid : Nat} (hne : mid ≠ id) : ∀ (src : List (Option Nat)) (n : Nat), findSrc id src n = none → findSrc id (src ++ [some mid]) n = none
  | [], n, _ => by
    simp only [List.nil_append, findSrc]
    cases hb : Nat.beq mid id
    · rfl
    · exact absurd (beq_eq hb) hne
  | some x :: r, n, h => by
    simp only [findSrc, List.cons_append] at h ⊢
    cases hb : Nat.beq x id <;> rw [hb] at h <;> simp only [cond_true, cond_false] at h ⊢
    · exact findSrc_snoc hne r (n + 1) h
    · cases h
  | none :: r, n, h => by
    simp only [findSrc, List.cons_append] at h ⊢
    exact findSrc_snoc hne r (n + 1) h

theorem findSrc_none {id : Nat} : ∀ (src : List (Option Nat)) (n : Nat), findSrc id src n = none → ∀ j : Nat, src[j]? ≠ some (some id)
  | [], n, _, j => by simp
  | some x :: r, n, h, j => by
    simp only [findSrc] at h
    cases hb : Nat.beq x id <;> rw [hb] at h <;> simp only [cond_true, cond_false] at h
    · cases j with
      | zero => intro e; simp at e; subst e; simp at hb
      | succ j => simpa using findSrc_none r _ h j
    · cases h
  | none :: r, n, h, j => by
    simp only [findSrc] at h
    cases j with
    | zero => simp
    | succ j => simpa using findSrc_none r _ h j

theorem AccOK.push {h : Nat → Blk} {a : Acc} (ha : AccOK h a) {id : Nat} {x : Blk} (hf : findSrc id a.src 0 = none) (hx : x.live → (h id).live) : AccOK h ⟨a.src ++ [some id], a.blks ++ [x]⟩ := by
  have hno := findSrc_none _ _ hf
  refine ⟨by simp [ha.len], ?_, ?_, ?_⟩
  · intro i j id' hi hj
    dsimp only at hi hj
    rw [List.getElem?_append] at hi hj
    split at hi <;> split at hj
    · exact ha.nodup i j id' hi hj
    · rw [List.getElem?_singleton] at hj
      split at hj
      · simp only [Option.some.injEq] at hj; subst hj; exact absurd hi (hno i)
      · cases hj
    · rw [List.getElem?_singleton] at hi
      split at hi
      · simp only [Option.some.injEq] at hi; subst hi; exact absurd hj (hno j)
      · cases hi
    · rw [List.getElem?_singleton] at hi hj
      split at hi <;> split at hj <;> first | omega | (cases hi; done) | (cases hj; done)
  · intro j hj
    dsimp only at hj ⊢
    rw [List.getElem?_append] at hj
    split at hj
    · rename_i hlt
      obtain ⟨k, hk, hho⟩ := ha.virt j hj
      exact ⟨k, by rw [List.getElem?_append_left (by rw [← ha.len]; exact hlt)]; exact hk, hho⟩
    · rw [List.getElem?_singleton] at hj
      split at hj <;> simp at hj
  · intro j id' y hj hy hl
    dsimp only at hj hy
    rw [List.getElem?_append] at hj hy
    rw [← ha.len] at hy
    split at hj
    · rename_i hlt
      rw [if_pos hlt] at hy
      exact ha.live j id' y hj hy hl
    · rename_i hge
      rw [if_neg hge] at hy
      rw [List.getElem?_singleton] at hj hy
      split at hj
      · rename_i h0
        rw [if_pos h0] at hy
        simp only [Option.some.injEq] at hj hy
        subst hj; subst hy
        exact hx hl
      · cases hj

theorem BlksOK.push {h : Nat → Blk} {ρ ρ' : Rho} {M : Nat → Prop} {w : World} {a : Acc} (ha : AccOK h a) (hb : BlksOK h ρ ρ' M w a) {id : Nat} {x : Blk} (hx : ∀ p, BlkRel ρ M w p (h id) → BlkRel ρ' M w p x) : BlksOK h ρ ρ' M w ⟨a.src ++ [some id], a.blks ++ [x]⟩ := by
  intro j id' y p hj hy hp hr
  dsimp only at hj hy
  rw [List.getElem?_append] at hj hy
  rw [← ha.len] at hy
  split at hj
  · rename_i hlt
    rw [if_pos hlt] at hy
    exact hb j id' y p hj hy hp hr
  · rename_i hge
    rw [if_neg hge] at hy
    rw [List.getElem?_singleton] at hj hy
    split at hj
    · rename_i h0
      rw [if_pos h0] at hy
      simp only [Option.some.injEq] at hj hy
      subst hj; subst hy
      exact hx p hr
    · cases hj

theorem Cons.pre {ρ ρ' : Rho} {src more : List (Option Nat)} (hc : Cons ρ ρ' (src ++ more)) : Cons ρ ρ' src := by
  refine ⟨fun j id hj => hc.old j id ?_, fun j hj => hc.nil j ?_⟩ <;>
  · have : j < src.length := (List.getElem?_eq_some_iff.mp hj).1
    rw [List.getElem?_append_left this]; exact hj

def HB (h : Nat → Blk) (ρ : Rho) (M : Nat → Prop) (w : World) : Prop := ∀ id p, (h id).live → ρ id = some p → BlkRel ρ M w p (h id)

/-- What a shape does. -/
def ShapeOK (h : Nat → Blk) (a a' : Acc) (Rn : Rho → Rho → (Nat → Prop) → World → Prop) : Prop :=
  (∃ more, a'.src = a.src ++ more) ∧ (AccOK h a → AccOK h a' ∧ ∀ ρ ρ' M w, HB h ρ M w → Cons ρ ρ' a'.src → BlksOK h ρ ρ' M w a → BlksOK h ρ ρ' M w a' ∧ Rn ρ ρ' M w)

def RnV (v v' : V) (ρ ρ' : Rho) (M : Nat → Prop) (w : World) : Prop := ∀ u, Rel ρ M w v u → Rel ρ' M w v' u
def RnL (v v' : List V) (ρ ρ' : Rho) (M : Nat → Prop) (w : World) : Prop := ∀ u, RelL ρ M w v u → RelL ρ' M w v' u

theorem ShapeOK.same {h : Nat → Blk} {a : Acc} {Rn : Rho → Rho → (Nat → Prop) → World → Prop} (hr : ∀ ρ ρ' M w, Cons ρ ρ' a.src → Rn ρ ρ' M w) : ShapeOK h a a Rn :=
  ⟨⟨[], by simp⟩, fun ha => ⟨ha, fun ρ ρ' M w _ hc hb => ⟨hb, hr ρ ρ' M w hc⟩⟩⟩

theorem ShapeOK.new {h : Nat → Blk} {a : Acc} {id : Nat} {x : Blk} {Rn : Rho → Rho → (Nat → Prop) → World → Prop} (hf : findSrc id a.src 0 = none) (hx : x.live → (h id).live) (hb : ∀ ρ ρ' M w p, BlkRel ρ M w p (h id) → BlkRel ρ' M w p x)
    (hr : ∀ (ρ ρ' : Rho) M w, ρ' a.src.length = ρ id → Rn ρ ρ' M w) : ShapeOK h a ⟨a.src ++ [some id], a.blks ++ [x]⟩ Rn :=
  ⟨⟨[some id], rfl⟩, fun ha => ⟨ha.push hf hx, fun ρ ρ' M w _ hc hk => ⟨hk.push ha (hb ρ ρ' M w), hr ρ ρ' M w (hc.old a.src.length id (by simp))⟩⟩⟩

theorem ShapeOK.sameq {h : Nat → Blk} {a : Acc} {Rn : Rho → Rho → (Nat → Prop) → World → Prop} (hr : ∀ ρ ρ' M w, HB h ρ M w → Cons ρ ρ' a.src → Rn ρ ρ' M w) : ShapeOK h a a Rn :=
  ⟨⟨[], by simp⟩, fun ha => ⟨ha, fun ρ ρ' M w hq hc hb => ⟨hb, hr ρ ρ' M w hq hc⟩⟩⟩

theorem ShapeOK.newq {h : Nat → Blk} {a : Acc} {id : Nat} {x : Blk} {Rn : Rho → Rho → (Nat → Prop) → World → Prop} (hf : findSrc id a.src 0 = none) (hx : x.live → (h id).live) (hb : ∀ ρ ρ' M w p, BlkRel ρ M w p (h id) → BlkRel ρ' M w p x)
    (hr : ∀ (ρ ρ' : Rho) M w, HB h ρ M w → ρ' a.src.length = ρ id → Rn ρ ρ' M w) : ShapeOK h a ⟨a.src ++ [some id], a.blks ++ [x]⟩ Rn :=
  ⟨⟨[some id], rfl⟩, fun ha => ⟨ha.push hf hx, fun ρ ρ' M w hq hc hk => ⟨hk.push ha (hb ρ ρ' M w), hr ρ ρ' M w hq (hc.old a.src.length id (by simp))⟩⟩⟩

/-- A whole row taken for a part of one. -/
theorem sw_part {h : Nat → Blk} {ρ ρ' : Rho} {M : Nat → Prop} {w : World} {id j s : Nat} {k : IntKind} {l : List Int} (hid : h id = .ints k l) (hq : HB h ρ M w) (he : ρ' j = ρ id) {u : Value} (hr : Rel ρ M w (.sw id s) u) : Rel ρ' M w (.sl j s 0 (cnt s l.length)) u := by
  have hl : ∀ p, ρ id = some p → l.length = p.n := fun p hp => by
    have := hq id p (by rw [hid]; trivial) hp
    rw [hid] at this
    exact this.1
  simp only [Rel] at hr ⊢
  obtain ⟨h0, ⟨b, n, C, cap, h1, h2, h3, h4, h5⟩ | ⟨h1, h2⟩⟩ := hr
  · have e1 : l.length = n := hl _ h1
    have hn : n / s * s = n := Nat.div_mul_cancel (Nat.dvd_of_mod_eq_zero h2)
    refine ⟨h0, .inl ⟨b, n, C, cap, by rw [he]; exact h1, ?_, ?_, by omega, ?_⟩⟩
    · rw [cnt_eq, e1]; omega
    · rw [cnt_eq, e1]; exact h3
    · rw [cnt_eq, e1]; exact h5
  · have e1 : l.length = 0 := hl _ h1
    exact ⟨h0, .inr ⟨by rw [cnt_eq, e1]; simp, none, h2⟩⟩

theorem Rel.ptr_name {ρ ρ' : Rho} {M : Nat → Prop} {w : World} {id j off ext : Nat} (h : ρ' j = ρ id) {u : Value} (hr : Rel ρ M w (.ptr id off ext) u) : Rel ρ' M w (.ptr j off ext) u := by
  simp only [Rel] at hr ⊢; rw [h]; exact hr
theorem Rel.mref_name {ρ ρ' : Rho} {M : Nat → Prop} {w : World} {id j : Nat} (h : ρ' j = ρ id) {u : Value} (hr : Rel ρ M w (.mref id) u) : Rel ρ' M w (.mref j) u := by
  simp only [Rel] at hr ⊢; rw [h]; exact hr
theorem Rel.sw_name {ρ ρ' : Rho} {M : Nat → Prop} {w : World} {id j s : Nat} (h : ρ' j = ρ id) {u : Value} (hr : Rel ρ M w (.sw id s) u) : Rel ρ' M w (.sw j s) u := by
  simp only [Rel] at hr ⊢; rw [h]; exact hr
theorem Rel.sl_name {ρ ρ' : Rho} {M : Nat → Prop} {w : World} {id j s off len : Nat} (h : ρ' j = ρ id) {u : Value} (hr : Rel ρ M w (.sl id s off len) u) : Rel ρ' M w (.sl j s off len) u := by
  simp only [Rel] at hr ⊢; rw [h]; exact hr

theorem blk_ints {ρ ρ' : Rho} {M : Nat → Prop} {w : World} {p : Pl} {k : IntKind} {l : List Int} (h : BlkRel ρ M w p (.ints k l)) : BlkRel ρ' M w p (.ints k l) := h
theorem blk_mp {ρ ρ' : Rho} {M : Nat → Prop} {w : World} {p : Pl} {k : IntKind} {n : Nat} {ks : List (List Int)} {vs : Col} (h : BlkRel ρ M w p (.mp k n ks vs)) : BlkRel ρ' M w p (.mp k n ks vs) := h
theorem blk_it {ρ ρ' : Rho} {M : Nat → Prop} {w : World} {p : Pl} {mid j cnt : Nat} {rem : List Nat} {cur : Nat} (hj : ρ' j = ρ mid) (h : BlkRel ρ M w p (.it (some mid) cnt rem cur)) : BlkRel ρ' M w p (.it (some j) cnt rem cur) := by
  obtain ⟨h1, h2, b, mb, seen, h4, h5, h6, h7⟩ := h
  refine ⟨h1, h2, b, mb, seen, h4, h5, fun i hi => ?_, h7⟩
  simp only [Option.some.injEq] at hi
  subst hi
  rw [hj]; exact h6 mid rfl
theorem blk_flat {ρ ρ' : Rho} {M : Nat → Prop} {w : World} {p : Pl} {cs : List V} (hc : (refsL cs).isEmpty = true) (h : BlkRel ρ M w p (.vals cs)) : BlkRel ρ' M w p (.vals cs) :=
  h.agree (fun i hi => absurd hi (isEmpty_refs hc i))

theorem blk_nl {ρ ρ' : Rho} {M : Nat → Prop} {w : World} {p : Pl} {k : IntKind} {s : Nat} {rows : List (List Int)} (h : BlkRel ρ M w p (.nl k s rows)) : BlkRel ρ' M w p (.nl k s rows) :=
  h.agree (fun i hi => by cases hi)

theorem found {ρ ρ' : Rho} {src : List (Option Nat)} {id j : Nat} (hf : findSrc id src 0 = some j) (hc : Cons ρ ρ' src) : ρ' j = ρ id := hc.old j id (by have := (findSrc_spec src 0 j hf).2; simpa using this)

theorem setBlk_get : ∀ (H : List Blk) (i j : Nat) (x : Blk), i < H.length → (setBlk H i x)[j]? = if j = i then some x else H[j]?
  | [], _, _, _, h => by simp at h
  | b :: r, 0, 0, x, _ => by simp [setBlk]
  | b :: r, 0, j + 1, x, _ => by simp [setBlk]
  | b :: r, n + 1, 0, x, _ => by simp [setBlk]
  | b :: r, n + 1, j + 1, x, h => by simp [setBlk, setBlk_get r n j x (by simpa using h)]

theorem fnPs_ok {ρ ρ' : Rho} {M : Nat → Prop} {w : World} {src : List (Option Nat)} (hc : Cons ρ ρ' src) : ∀ (vs vs' : List V), fnPs src vs = some vs' → ∀ us : List Value, RelL ρ M w vs us → RelL ρ' M w vs' us
  | [], vs', hs, us, hr => by
    simp only [fnPs, Option.some.injEq] at hs
    subst hs
    cases us <;> simp_all [RelL]
  | v :: r, vs', hs, us, hr => by
    cases us with
    | nil => simp only [RelL] at hr
    | cons u us =>
      cases v <;> simp only [fnPs] at hs <;> try cases hs
      split at hs
      · rename_i j r' hf hr'
        simp only [Option.some.injEq] at hs
        subst hs
        simp only [RelL] at hr ⊢
        exact ⟨hr.1.ptr_name (found hf hc), fnPs_ok hc r r' hr' us hr.2⟩
      · cases hs

mutual
theorem shape_ok {h : Nat → Blk} : ∀ (sh : Sh) (v : V) (a : Acc) (v' : V) (a' : Acc), shape h sh v a = some (v', a') → ShapeOK h a a' (RnV v v')
  | .any, v, a, v', a', hs => by
    unfold shape at hs
    cases hc : (refs v).isEmpty <;> rw [hc] at hs <;> simp only [cond_true, cond_false] at hs
    · split at hs
      · rename_i id off ext
        split at hs
        · rename_i j hf
          simp only [Option.some.injEq, Prod.mk.injEq] at hs
          obtain ⟨rfl, rfl⟩ := hs
          exact .same (fun ρ ρ' M w hc u hr => hr.ptr_name (found hf hc))
        · rename_i hf
          split at hs
          · rename_i k l hid
            simp only [Option.some.injEq, Prod.mk.injEq] at hs
            obtain ⟨rfl, rfl⟩ := hs
            exact .new hf (fun _ => by rw [hid]; trivial) (fun ρ ρ' M w p hb => by rw [hid] at hb; exact blk_ints hb) (fun ρ ρ' M w he u hr => hr.ptr_name he)
          · rename_i cs hid
            obtain ⟨h1, h2⟩ := cond_some hs
            simp only [Option.some.injEq, Prod.mk.injEq] at h2
            obtain ⟨rfl, rfl⟩ := h2
            exact .new hf (fun _ => by rw [hid]; trivial) (fun ρ ρ' M w p hb => by rw [hid] at hb; exact blk_flat h1 hb) (fun ρ ρ' M w he u hr => hr.ptr_name he)
          · cases hs
          · cases hs
          · cases hs
          · rename_i mid cnt rem cur hid
            split at hs
            · rename_i j hfm
              simp only [Option.some.injEq, Prod.mk.injEq] at hs
              obtain ⟨rfl, rfl⟩ := hs
              refine ⟨⟨[some id], rfl⟩, fun ha => ⟨ha.push hf (fun _ => by rw [hid]; trivial), fun ρ ρ' M w _ hc hk => ⟨hk.push ha (fun p hb => by rw [hid] at hb; exact blk_it (found hfm hc.pre) hb), fun u hr => hr.ptr_name (hc.old a.src.length id (by simp))⟩⟩⟩
            · rename_i hfm
              split at hs
              · rename_i k n ks vs hmid
                simp only [Option.some.injEq, Prod.mk.injEq] at hs
                obtain ⟨rfl, rfl⟩ := hs
                have hne : mid ≠ id := by rintro rfl; rw [hid] at hmid; cases hmid
                have hf2 : findSrc id (a.src ++ [some mid]) 0 = none := findSrc_snoc hne _ _ hf
                refine ⟨⟨[some mid] ++ [some id], by simp⟩, fun ha => ?_⟩
                have ha1 : AccOK h ⟨a.src ++ [some mid], a.blks ++ [.mp k n ks vs]⟩ := ha.push hfm (fun _ => by rw [hmid]; trivial)
                refine ⟨ha1.push hf2 (fun _ => by rw [hid]; trivial), fun ρ ρ' M w _ hc hk => ⟨?_, fun u hr => hr.ptr_name (hc.old (a.src.length + 1) id (by simp))⟩⟩
                have hk1 : BlksOK h ρ ρ' M w ⟨a.src ++ [some mid], a.blks ++ [.mp k n ks vs]⟩ := hk.push ha (fun p hb => by rw [hmid] at hb; exact blk_mp hb)
                exact hk1.push ha1 (fun p hb => by rw [hid] at hb; exact blk_it (hc.old a.src.length mid (by simp)) hb)
              · cases hs
          · cases hs
      · rename_i id s
        split at hs
        · rename_i j hf
          simp only [Option.some.injEq, Prod.mk.injEq] at hs
          obtain ⟨rfl, rfl⟩ := hs
          exact .same (fun ρ ρ' M w hc u hr => hr.sw_name (found hf hc))
        · rename_i hf
          split at hs
          · rename_i k l hid
            simp only [Option.some.injEq, Prod.mk.injEq] at hs
            obtain ⟨rfl, rfl⟩ := hs
            exact .new hf (fun _ => by rw [hid]; trivial) (fun ρ ρ' M w p hb => by rw [hid] at hb; exact blk_ints hb) (fun ρ ρ' M w he u hr => hr.sw_name he)
          · rename_i cs hid
            obtain ⟨h1, h2⟩ := cond_some hs
            simp only [Option.some.injEq, Prod.mk.injEq] at h2
            obtain ⟨rfl, rfl⟩ := h2
            exact .new hf (fun _ => by rw [hid]; trivial) (fun ρ ρ' M w p hb => by rw [hid] at hb; exact blk_flat h1 hb) (fun ρ ρ' M w he u hr => hr.sw_name he)
          · rename_i k s0 rows hid
            simp only [Option.some.injEq, Prod.mk.injEq] at hs
            obtain ⟨rfl, rfl⟩ := hs
            exact .new hf (fun _ => by rw [hid]; trivial) (fun ρ ρ' M w p hb => by rw [hid] at hb; exact blk_nl hb) (fun ρ ρ' M w he u hr => hr.sw_name he)
          · cases hs
          · cases hs
          · cases hs
      · rename_i id s off len
        split at hs
        · rename_i j hf
          simp only [Option.some.injEq, Prod.mk.injEq] at hs
          obtain ⟨rfl, rfl⟩ := hs
          exact .same (fun ρ ρ' M w hc u hr => hr.sl_name (found hf hc))
        · rename_i hf
          split at hs
          · rename_i k l hid
            simp only [Option.some.injEq, Prod.mk.injEq] at hs
            obtain ⟨rfl, rfl⟩ := hs
            exact .new hf (fun _ => by rw [hid]; trivial) (fun ρ ρ' M w p hb => by rw [hid] at hb; exact blk_ints hb) (fun ρ ρ' M w he u hr => hr.sl_name he)
          · rename_i cs hid
            obtain ⟨h1, h2⟩ := cond_some hs
            simp only [Option.some.injEq, Prod.mk.injEq] at h2
            obtain ⟨rfl, rfl⟩ := h2
            exact .new hf (fun _ => by rw [hid]; trivial) (fun ρ ρ' M w p hb => by rw [hid] at hb; exact blk_flat h1 hb) (fun ρ ρ' M w he u hr => hr.sl_name he)
          · cases hs
          · cases hs
          · cases hs
          · cases hs
      · rename_i id
        split at hs
        · rename_i j hf
          simp only [Option.some.injEq, Prod.mk.injEq] at hs
          obtain ⟨rfl, rfl⟩ := hs
          exact .same (fun ρ ρ' M w hc u hr => hr.mref_name (found hf hc))
        · rename_i hf
          split at hs
          · rename_i k n ks vs hid
            simp only [Option.some.injEq, Prod.mk.injEq] at hs
            obtain ⟨rfl, rfl⟩ := hs
            exact .new hf (fun _ => by rw [hid]; trivial) (fun ρ ρ' M w p hb => by rw [hid] at hb; exact blk_mp hb) (fun ρ ρ' M w he u hr => hr.mref_name he)
          · cases hs
      · rename_i f va vc
        split at hs
        · rename_i va' vc' ha hc
          simp only [Option.some.injEq, Prod.mk.injEq] at hs
          obtain ⟨rfl, rfl⟩ := hs
          refine .same (fun ρ ρ' M w hcons u hr => ?_)
          simp only [Rel] at hr ⊢
          obtain ⟨ua, uc, h1, h2, h3⟩ := hr
          exact ⟨ua, uc, h1, fnPs_ok hcons va va' ha _ h2, fnPs_ok hcons vc vc' hc _ h3⟩
        · cases hs
      · cases hs
    · simp only [Option.some.injEq, Prod.mk.injEq] at hs
      obtain ⟨rfl, rfl⟩ := hs
      exact .same (fun ρ ρ' M w _ u hr => hr.agree _ _ (fun i hi => absurd hi (isEmpty_refs hc i)))
  | .row k s, v, a, v', a', hs => by
    unfold shape at hs
    split at hs
    · obtain ⟨h0, hs⟩ := cond_some hs
      have h0 := blt_lt h0
      simp only [Option.some.injEq, Prod.mk.injEq] at hs
      obtain ⟨rfl, rfl⟩ := hs
      refine ⟨⟨[none], rfl⟩, fun ha => ⟨⟨by simp [ha.len], ?_, ?_, ?_⟩, fun ρ ρ' M w hq hc hb => ⟨?_, ?_⟩⟩⟩
      · intro i j id hi hj
        dsimp only at hi hj
        rw [List.getElem?_append] at hi hj
        split at hi <;> split at hj <;> first
          | exact ha.nodup i j id hi hj
          | (rw [List.getElem?_singleton] at hi; split at hi <;> simp at hi)
          | (rw [List.getElem?_singleton] at hj; split at hj <;> simp at hj)
      · intro j hj
        dsimp only at hj ⊢
        rw [List.getElem?_append] at hj
        split at hj
        · rename_i hlt
          obtain ⟨k, hk, hho⟩ := ha.virt j hj
          exact ⟨k, by rw [List.getElem?_append_left (by rw [← ha.len]; exact hlt)]; exact hk, hho⟩
        · rename_i hge
          rw [List.getElem?_singleton] at hj
          split at hj
          · refine ⟨.ints k [], ?_, .inl ⟨k, rfl⟩⟩
            rw [List.getElem?_append_right (by rw [← ha.len]; omega), ← ha.len]
            have : j - a.src.length = 0 := by omega
            rw [this]; rfl
          · cases hj
      · intro j id x hj hx hl
        dsimp only at hj hx
        rw [List.getElem?_append] at hj hx
        rw [← ha.len] at hx
        split at hj
        · rename_i hlt
          rw [if_pos hlt] at hx
          exact ha.live j id x hj hx hl
        · rw [List.getElem?_singleton] at hj; split at hj <;> simp at hj
      · intro j id x p hj hx hp hr
        dsimp only at hj hx
        rw [List.getElem?_append] at hj hx
        rw [← ha.len] at hx
        split at hj
        · rename_i hlt
          rw [if_pos hlt] at hx
          exact hb j id x p hj hx hp hr
        · rw [List.getElem?_singleton] at hj; split at hj <;> simp at hj
      · intro u hr
        simp only [Rel] at hr ⊢
        exact ⟨h0, .inr ⟨hc.nil a.src.length (by simp), hr⟩⟩
    · rename_i id s'
      obtain ⟨h0, h2⟩ := cond_some hs
      clear hs
      have hs := h2
      clear h2
      have h3 := beq_eq h0
      clear h0
      subst h3
      split at hs
      · rename_i j hf
        simp only [Option.some.injEq, Prod.mk.injEq] at hs
        obtain ⟨rfl, rfl⟩ := hs
        exact .same (fun ρ ρ' M w hc u hr => hr.sw_name (found hf hc))
      · rename_i hf
        split at hs
        · rename_i k' l hid
          obtain ⟨h1, hs⟩ := cond_some hs
          simp only [Option.some.injEq, Prod.mk.injEq] at hs
          obtain ⟨rfl, rfl⟩ := hs
          exact .new hf (fun _ => by rw [hid]; trivial) (fun ρ ρ' M w p hb => by rw [hid] at hb; exact blk_ints hb) (fun ρ ρ' M w he u hr => hr.sw_name he)
        · cases hs
    · cases hs
  | .nrow k s, v, a, v', a', hs => by
    unfold shape at hs
    split at hs
    · have h0 : 0 < 1 := Nat.one_pos
      simp only [Option.some.injEq, Prod.mk.injEq] at hs
      obtain ⟨rfl, rfl⟩ := hs
      refine ⟨⟨[none], rfl⟩, fun ha => ⟨⟨by simp [ha.len], ?_, ?_, ?_⟩, fun ρ ρ' M w hq hc hb => ⟨?_, ?_⟩⟩⟩
      · intro i j id hi hj
        dsimp only at hi hj
        rw [List.getElem?_append] at hi hj
        split at hi <;> split at hj <;> first
          | exact ha.nodup i j id hi hj
          | (rw [List.getElem?_singleton] at hi; split at hi <;> simp at hi)
          | (rw [List.getElem?_singleton] at hj; split at hj <;> simp at hj)
      · intro j hj
        dsimp only at hj ⊢
        rw [List.getElem?_append] at hj
        split at hj
        · rename_i hlt
          obtain ⟨k, hk, hho⟩ := ha.virt j hj
          exact ⟨k, by rw [List.getElem?_append_left (by rw [← ha.len]; exact hlt)]; exact hk, hho⟩
        · rename_i hge
          rw [List.getElem?_singleton] at hj
          split at hj
          · refine ⟨.nl k s [], ?_, .inr ⟨k, s, rfl⟩⟩
            rw [List.getElem?_append_right (by rw [← ha.len]; omega), ← ha.len]
            have : j - a.src.length = 0 := by omega
            rw [this]; rfl
          · cases hj
      · intro j id x hj hx hl
        dsimp only at hj hx
        rw [List.getElem?_append] at hj hx
        rw [← ha.len] at hx
        split at hj
        · rename_i hlt
          rw [if_pos hlt] at hx
          exact ha.live j id x hj hx hl
        · rw [List.getElem?_singleton] at hj; split at hj <;> simp at hj
      · intro j id x p hj hx hp hr
        dsimp only at hj hx
        rw [List.getElem?_append] at hj hx
        rw [← ha.len] at hx
        split at hj
        · rename_i hlt
          rw [if_pos hlt] at hx
          exact hb j id x p hj hx hp hr
        · rw [List.getElem?_singleton] at hj; split at hj <;> simp at hj
      · intro u hr
        simp only [Rel] at hr ⊢
        exact ⟨h0, .inr ⟨hc.nil a.src.length (by simp), hr⟩⟩
    · rename_i id s'
      obtain ⟨h0, h2⟩ := cond_some hs
      clear hs
      have hs := h2
      clear h2
      have h3 := beq_eq h0
      clear h0
      subst h3
      split at hs
      · rename_i j hf
        simp only [Option.some.injEq, Prod.mk.injEq] at hs
        obtain ⟨rfl, rfl⟩ := hs
        exact .same (fun ρ ρ' M w hc u hr => hr.sw_name (found hf hc))
      · rename_i hf
        split at hs
        · rename_i k' s2 l hid
          obtain ⟨h1, hs⟩ := cond_some hs
          simp only [Option.some.injEq, Prod.mk.injEq] at hs
          obtain ⟨rfl, rfl⟩ := hs
          exact .new hf (fun _ => by rw [hid]; trivial) (fun ρ ρ' M w p hb => by rw [hid] at hb; exact blk_nl hb) (fun ρ ρ' M w he u hr => hr.sw_name he)
        · cases hs
    · cases hs
  | .part k s, v, a, v', a', hs => by
    unfold shape at hs
    split at hs
    · obtain ⟨h0, hs⟩ := cond_some hs
      have h0 := blt_lt h0
      simp only [Option.some.injEq, Prod.mk.injEq] at hs
      obtain ⟨rfl, rfl⟩ := hs
      refine ⟨⟨[none], rfl⟩, fun ha => ⟨⟨by simp [ha.len], ?_, ?_, ?_⟩, fun ρ ρ' M w hq hc hb => ⟨?_, ?_⟩⟩⟩
      · intro i j id hi hj
        dsimp only at hi hj
        rw [List.getElem?_append] at hi hj
        split at hi <;> split at hj <;> first
          | exact ha.nodup i j id hi hj
          | (rw [List.getElem?_singleton] at hi; split at hi <;> simp at hi)
          | (rw [List.getElem?_singleton] at hj; split at hj <;> simp at hj)
      · intro j hj
        dsimp only at hj ⊢
        rw [List.getElem?_append] at hj
        split at hj
        · rename_i hlt
          obtain ⟨k, hk, hho⟩ := ha.virt j hj
          exact ⟨k, by rw [List.getElem?_append_left (by rw [← ha.len]; exact hlt)]; exact hk, hho⟩
        · rename_i hge
          rw [List.getElem?_singleton] at hj
          split at hj
          · refine ⟨.ints k [], ?_, .inl ⟨k, rfl⟩⟩
            rw [List.getElem?_append_right (by rw [← ha.len]; omega), ← ha.len]
            have : j - a.src.length = 0 := by omega
            rw [this]; rfl
          · cases hj
      · intro j id x hj hx hl
        dsimp only at hj hx
        rw [List.getElem?_append] at hj hx
        rw [← ha.len] at hx
        split at hj
        · rename_i hlt
          rw [if_pos hlt] at hx
          exact ha.live j id x hj hx hl
        · rw [List.getElem?_singleton] at hj; split at hj <;> simp at hj
      · intro j id x p hj hx hp hr
        dsimp only at hj hx
        rw [List.getElem?_append] at hj hx
        rw [← ha.len] at hx
        split at hj
        · rename_i hlt
          rw [if_pos hlt] at hx
          exact hb j id x p hj hx hp hr
        · rw [List.getElem?_singleton] at hj; split at hj <;> simp at hj
      · intro u hr
        simp only [Rel] at hr ⊢
        exact ⟨h0, .inr ⟨trivial, none, hr⟩⟩
    · rename_i id s'
      obtain ⟨h0, h2⟩ := cond_some hs
      clear hs
      have hs := h2
      clear h2
      have h3 := beq_eq h0
      clear h0
      subst h3
      split at hs
      · rename_i k' l hid
        obtain ⟨h1, hs2⟩ := cond_some hs
        clear hs
        have hs := hs2
        clear hs2
        split at hs
        · rename_i j hf
          simp only [Option.some.injEq, Prod.mk.injEq] at hs
          obtain ⟨rfl, rfl⟩ := hs
          exact .sameq (fun ρ ρ' M w hq hc u hr => sw_part hid hq (found hf hc) hr)
        · rename_i hf
          simp only [Option.some.injEq, Prod.mk.injEq] at hs
          obtain ⟨rfl, rfl⟩ := hs
          exact .newq hf (fun _ => by rw [hid]; trivial) (fun ρ ρ' M w p hb => by rw [hid] at hb; exact blk_ints hb) (fun ρ ρ' M w hq he u hr => sw_part hid hq he hr)
      · cases hs
    · rename_i id s' off len
      obtain ⟨h0, h2⟩ := cond_some hs
      clear hs
      have hs := h2
      clear h2
      split at hs
      · rename_i k' l hid
        obtain ⟨h1, hs2⟩ := cond_some hs
        clear hs
        have hs := hs2
        clear hs2
        split at hs
        · rename_i j hf
          simp only [Option.some.injEq, Prod.mk.injEq] at hs
          obtain ⟨rfl, rfl⟩ := hs
          exact .same (fun ρ ρ' M w hc u hr => hr.sl_name (found hf hc))
        · rename_i hf
          simp only [Option.some.injEq, Prod.mk.injEq] at hs
          obtain ⟨rfl, rfl⟩ := hs
          exact .new hf (fun _ => by rw [hid]; trivial) (fun ρ ρ' M w p hb => by rw [hid] at hb; exact blk_ints hb) (fun ρ ρ' M w he u hr => hr.sl_name he)
      · cases hs
    · cases hs
  | .il k s, v, a, v', a', hs => by
    unfold shape at hs
    split at hs
    · obtain ⟨h0, hs⟩ := cond_some hs
      have h0 := blt_lt h0
      simp only [Option.some.injEq, Prod.mk.injEq] at hs
      obtain ⟨rfl, rfl⟩ := hs
      refine .same (fun ρ ρ' M w hc u hr => ?_)
      simp only [Rel] at hr ⊢
      exact ⟨h0, by simp, .inl ⟨trivial, none, hr⟩⟩
    · obtain ⟨h0, hs⟩ := cond_some hs
      simp only [Option.some.injEq, Prod.mk.injEq] at hs
      obtain ⟨rfl, rfl⟩ := hs
      exact .same (fun ρ ρ' M w hc u hr => by simpa only [Rel] using hr)
    · cases hs
  | .box ss, v, a, v', a', hs => by
    unfold shape at hs
    split at hs
    · rename_i id off ext
      split at hs
      · rename_i j hf
        simp only [Option.some.injEq, Prod.mk.injEq] at hs
        obtain ⟨rfl, rfl⟩ := hs
        exact .same (fun ρ ρ' M w hc u hr => hr.ptr_name (found hf hc))
      · rename_i hf
        split at hs
        · rename_i cs hid
          split at hs
          · rename_i cs' a1 hL
            simp only [Option.some.injEq, Prod.mk.injEq] at hs
            obtain ⟨rfl, rfl⟩ := hs
            obtain ⟨⟨more, hm⟩, hk⟩ := shapeL_ok ss cs _ cs' a1 hL
            refine ⟨⟨[some id] ++ more, by rw [hm]; simp⟩, fun ha => ?_⟩
            obtain ⟨k1, k2⟩ := hk (ha.push hf (fun hx => hx.elim))
            have hsrc : a1.src[a.src.length]? = some (some id) := by rw [hm]; simp
            have hlt : a.src.length < a1.blks.length := by rw [← k1.len, hm]; simp
            refine ⟨⟨by rw [setBlk_length]; exact k1.len, k1.nodup, ?_, ?_⟩, fun ρ ρ' M w hq hc hb => ?_⟩
            · intro j hj
              obtain ⟨k, hk, hho⟩ := k1.virt j hj
              refine ⟨k, ?_, hho⟩
              dsimp only at hj ⊢
              rw [setBlk_get _ _ _ _ hlt, if_neg (fun e => by subst e; rw [hsrc] at hj; cases hj)]
              exact hk
            · intro j id' x hj hx hl
              dsimp only at hj hx
              rw [setBlk_get _ _ _ _ hlt] at hx
              split at hx
              · rename_i e; subst e; rw [hsrc] at hj; simp only [Option.some.injEq] at hj; subst hj; rw [hid]; trivial
              · exact k1.live j id' x hj hx hl
            · obtain ⟨b1, b2⟩ := k2 ρ ρ' M w hq hc (hb.push ha (fun p _ => trivial))
              refine ⟨?_, fun u hr => hr.ptr_name (hc.old _ _ hsrc)⟩
              intro j id' x p hj hx hp hr
              dsimp only at hj hx
              rw [setBlk_get _ _ _ _ hlt] at hx
              split at hx
              · rename_i e
                subst e
                rw [hsrc] at hj
                simp only [Option.some.injEq] at hj hx
                subst hj; subst hx
                rw [hid] at hr
                obtain ⟨h1, ⟨h2, h3, h4⟩ | ⟨b, c, h2, h3, h4, h5⟩⟩ := hr
                · subst h3
                  have := b2 [] (by simp only [RelL])
                  cases cs' with
                  | nil => exact ⟨h1, .inl ⟨h2, rfl, h4⟩⟩
                  | cons => simp only [RelL] at this
                · have := b2 _ h5
                  exact ⟨by rw [← h1, this.length, h5.length], .inr ⟨b, c, h2, h3, h4, this⟩⟩
              · exact b1 j id' x p hj hx hp hr
          · cases hs
        · cases hs
    · cases hs
  | .recd ss, v, a, v', a', hs => by
    unfold shape at hs
    split at hs
    · rename_i cs
      split at hs
      · rename_i cs' a1 hL
        simp only [Option.some.injEq, Prod.mk.injEq] at hs
        obtain ⟨rfl, rfl⟩ := hs
        obtain ⟨h1, hk⟩ := shapeL_ok ss cs a cs' a1 hL
        refine ⟨h1, fun ha => ⟨(hk ha).1, fun ρ ρ' M w hq hc hb => ⟨((hk ha).2 ρ ρ' M w hq hc hb).1, fun u hr => ?_⟩⟩⟩
        simp only [Rel] at hr ⊢
        obtain ⟨vs, e, hr⟩ := hr
        exact ⟨vs, e, ((hk ha).2 ρ ρ' M w hq hc hb).2 _ hr⟩
      · cases hs
    · cases hs
  | .tup ss, v, a, v', a', hs => by
    unfold shape at hs
    split at hs
    · rename_i cs
      split at hs
      · rename_i cs' a1 hL
        simp only [Option.some.injEq, Prod.mk.injEq] at hs
        obtain ⟨rfl, rfl⟩ := hs
        obtain ⟨h1, hk⟩ := shapeL_ok ss cs a cs' a1 hL
        refine ⟨h1, fun ha => ⟨(hk ha).1, fun ρ ρ' M w hq hc hb => ⟨((hk ha).2 ρ ρ' M w hq hc hb).1, fun u hr => ?_⟩⟩⟩
        simp only [Rel] at hr ⊢
        obtain ⟨vs, e, hr⟩ := hr
        exact ⟨vs, e, ((hk ha).2 ρ ρ' M w hq hc hb).2 _ hr⟩
      · cases hs
    · cases hs
theorem shapeL_ok {h : Nat → Blk} : ∀ (ss : List Sh) (vs : List V) (a : Acc) (vs' : List V) (a' : Acc), shapeL h ss vs a = some (vs', a') → ShapeOK h a a' (RnL vs vs')
  | [], [], a, vs', a', hs => by
    simp only [shapeL, Option.some.injEq, Prod.mk.injEq] at hs
    obtain ⟨rfl, rfl⟩ := hs
    exact .same (fun ρ ρ' M w hc u hr => by cases u <;> simp_all [RelL])
  | s :: ss, v :: vs, a, vs', a', hs => by
    unfold shapeL at hs
    split at hs
    · rename_i v1 a1 h1
      split at hs
      · rename_i vs1 a2 h2
        simp only [Option.some.injEq, Prod.mk.injEq] at hs
        obtain ⟨rfl, rfl⟩ := hs
        obtain ⟨⟨m1, e1⟩, k1⟩ := shape_ok s v a v1 a1 h1
        obtain ⟨⟨m2, e2⟩, k2⟩ := shapeL_ok ss vs a1 vs1 a2 h2
        refine ⟨⟨m1 ++ m2, by rw [e2, e1, List.append_assoc]⟩, fun ha => ?_⟩
        obtain ⟨p1, p2⟩ := k1 ha
        obtain ⟨q1, q2⟩ := k2 p1
        refine ⟨q1, fun ρ ρ' M w hq hc hb => ?_⟩
        obtain ⟨r1, r2⟩ := p2 ρ ρ' M w hq (by rw [e2] at hc; exact hc.pre) hb
        obtain ⟨t1, t2⟩ := q2 ρ ρ' M w hq hc r1
        refine ⟨t1, fun u hr => ?_⟩
        cases u with
        | nil => simp only [RelL] at hr
        | cons u us =>
          simp only [RelL] at hr ⊢
          exact ⟨r2 u hr.1, t2 us hr.2⟩
      · cases hs
    · cases hs
  | [], _ :: _, a, vs', a', hs => by simp [shapeL] at hs
  | _ :: _, [], a, vs', a', hs => by simp [shapeL] at hs
end

theorem setBlk_cases : ∀ (H : List Blk) (i : Nat) (x : Blk) (j : Nat), (setBlk H i x)[j]? = H[j]? ∨ (setBlk H i x)[j]? = some x
  | [], _, _, _ => .inl (by simp [setBlk])
  | b :: r, 0, x, 0 => .inr (by simp [setBlk])
  | b :: r, 0, x, j + 1 => .inl (by simp [setBlk])
  | b :: r, n + 1, x, 0 => .inl (by simp [setBlk])
  | b :: r, n + 1, x, j + 1 => by simpa [setBlk] using setBlk_cases r n x j
theorem killB_length : ∀ (bsh : List (Nat × List Sh)) (H : List Blk), (killB bsh H).length = H.length
  | [], _ => rfl
  | p :: r, H => by simp only [killB]; rw [killB_length r, setBlk_length]
theorem killB_cases : ∀ (bsh : List (Nat × List Sh)) (H : List Blk) (j : Nat), (killB bsh H)[j]? = H[j]? ∨ (killB bsh H)[j]? = some .dead
  | [], _, _ => .inl rfl
  | p :: r, H, j => by
    simp only [killB]
    rcases killB_cases r (setBlk H p.1 .dead) j with h | h
    · rcases setBlk_cases H p.1 .dead j with g | g
      · exact .inl (h.trans g)
      · exact .inr (h.trans g)
    · exact .inr h

theorem shapeB_ok {h : Nat → Blk} : ∀ (bsh : List (Nat × List Sh)) (a a' : Acc), shapeB h bsh a = some a' → (∃ more, a'.src = a.src ++ more) ∧ (AccOK h a → (∀ p ∈ bsh, a.src[p.1]? = some (some p.1)) → AccOK h a' ∧ ∀ ρ ρ' M w, HB h ρ M w → Cons ρ ρ' a'.src → BlksOK h ρ ρ' M w a → BlksOK h ρ ρ' M w a')
  | [], a, a', hs => by
    simp only [shapeB, Option.some.injEq] at hs
    subst hs
    exact ⟨⟨[], by simp⟩, fun ha _ => ⟨ha, fun ρ ρ' M w _ _ hb => hb⟩⟩
  | (i, ss) :: r, a, a', hs => by
    simp only [shapeB] at hs
    split at hs
    · rename_i cs hid
      split at hs
      · rename_i cs' a1 hL
        obtain ⟨⟨m1, e1⟩, hk⟩ := shapeL_ok ss cs a cs' a1 hL
        obtain ⟨⟨m2, e2⟩, hk2⟩ := shapeB_ok r _ a' hs
        dsimp only at e2
        refine ⟨⟨m1 ++ m2, by rw [e2, e1, List.append_assoc]⟩, fun ha hp => ?_⟩
        obtain ⟨k1, k2⟩ := hk ha
        have hi := hp (i, ss) (by simp)
        dsimp only at hi
        have hilt : i < a.src.length := (List.getElem?_eq_some_iff.mp hi).1
        have hsrc : a1.src[i]? = some (some i) := by rw [e1, List.getElem?_append_left hilt]; exact hi
        have hlt : i < a1.blks.length := by rw [← k1.len, e1]; simp; omega
        have hA2 : AccOK h ⟨a1.src, setBlk a1.blks i (.vals cs')⟩ := by
          refine ⟨by rw [setBlk_length]; exact k1.len, k1.nodup, ?_, ?_⟩
          · intro j hj
            obtain ⟨k, hk, hho⟩ := k1.virt j hj
            refine ⟨k, ?_, hho⟩
            dsimp only at hj ⊢
            rw [setBlk_get _ _ _ _ hlt, if_neg (fun e => by subst e; rw [hsrc] at hj; cases hj)]
            exact hk
          · intro j id' x hj hx hl
            dsimp only at hj hx
            rw [setBlk_get _ _ _ _ hlt] at hx
            split at hx
            · rename_i e; subst e; rw [hsrc] at hj; simp only [Option.some.injEq] at hj; subst hj; rw [hid]; trivial
            · exact k1.live j id' x hj hx hl
        obtain ⟨q1, q2⟩ := hk2 hA2 (fun p hpr => by
          have h0 := hp p (List.mem_cons_of_mem _ hpr)
          have hlt0 : p.1 < a.src.length := (List.getElem?_eq_some_iff.mp h0).1
          dsimp only
          rw [e1, List.getElem?_append_left hlt0]; exact h0)
        refine ⟨q1, fun ρ ρ' M w hq hc hb => q2 ρ ρ' M w hq hc ?_⟩
        obtain ⟨b1, b2⟩ := k2 ρ ρ' M w hq (by rw [e2] at hc; exact hc.pre) hb
        intro j id' x p hj hx hp hr
        dsimp only at hj hx
        rw [setBlk_get _ _ _ _ hlt] at hx
        split at hx
        · rename_i e
          subst e
          rw [hsrc] at hj
          simp only [Option.some.injEq] at hj hx
          subst hj; subst hx
          rw [hid] at hr
          obtain ⟨h1, ⟨h2, h3, h4⟩ | ⟨b, c, h2, h3, h4, h5⟩⟩ := hr
          · subst h3
            have := b2 [] (by simp only [RelL])
            cases cs' with
            | nil => exact ⟨h1, .inl ⟨h2, rfl, h4⟩⟩
            | cons => simp only [RelL] at this
          · have := b2 _ h5
            exact ⟨by rw [← h1, this.length, h5.length], .inr ⟨b, c, h2, h3, h4, this⟩⟩
        · exact b1 j id' x p hj hx hp hr
      · cases hs
    · cases hs

end Go.Proofs.Ytlofhdoefjmabaa.Ev

/-
  The evaluator's normal forms and results are sound: what holds before holds after. (A text of ours; no condition.)
-/
namespace Go.Proofs.Ytlofhdoefjmabaa.Ev
set_option linter.unusedVariables false
set_option linter.unusedSimpArgs false

/-- Where a run began. -/
structure Start where
  F : Nat → Prop
  ρ : Rho
  bs : List Blk
  w : World

/-- A state of the evaluator reads so in a frame and a world, since the start. -/
def Inv (E : Env) (S : Start) (s : St) (a : Act) (w : World) : Prop :=
  ∃ ρ, Rep E S.F ρ (look s.T) (blkAt s.H) a w ∧ (∀ j, s.H.length ≤ j → ρ j = none) ∧ (∀ j, j < E.nb → ρ j = S.ρ j) ∧ E.nb ≤ s.H.length ∧ Ext (liveM S.ρ (blkAt S.bs)) S.w (liveM ρ (blkAt s.H)) w

theorem blkAt_some {H : List Blk} {j : Nat} (hl : (blkAt H j).live) : H[j]? = some (blkAt H j) := by
  rw [blkAt_getD, List.getD_eq_getElem?_getD] at hl ⊢
  cases h : H[j]? with
  | none => rw [h] at hl; exact hl.elim
  | some x => rfl

theorem blkAt_of {H : List Blk} {j : Nat} {x : Blk} (h : H[j]? = some x) : blkAt H j = x := by
  rw [blkAt_getD, List.getD_eq_getElem?_getD, h]; rfl

theorem blksOk_spec : ∀ (nb : Nat) (H : List Blk), blksOk nb H = true → ∀ x ∈ H, ∀ i ∈ refsB x, i < nb
  | _, [], _, x, hx => by simp at hx
  | nb, b :: r, h, x, hx => by
    simp only [blksOk, Bool.and_eq_true, List.all_eq_true] at h
    rcases List.mem_cons.mp hx with rfl | hx
    · intro i hi; exact blt_lt (h.1 i hi)
    · exact blksOk_spec nb r h.2 x hx

theorem look_mkT : ∀ (keep : List (Nat × Sh)) (T : Nat → V) (vs : List V) (u : List Value) (ρ : Rho) (M : Nat → Prop) (w : World) (ev : Nat → Value), RelL ρ M w vs (keep.map fun p => ev p.1) → ∀ t, Rel ρ M w (look (mkT keep vs) t) (ev t)
  | [], _, vs, _, ρ, M, w, ev, hr, t => by simp only [mkT, look, Rel]
  | p :: r, T, [], u, ρ, M, w, ev, hr, t => by simp only [mkT, look, Rel]
  | (d, sh) :: r, T, v :: vs, u, ρ, M, w, ev, hr, t => by
    simp only [List.map_cons, RelL] at hr
    simp only [mkT, look]
    cases hb : Nat.beq d t <;> simp only [cond_true, cond_false]
    · exact look_mkT r T vs u ρ M w ev hr.2 t
    · have := beq_eq hb; subst this; exact hr.1

theorem RelL.map_fn {α : Type} {ρ : Rho} {M : Nat → Prop} {w : World} (f : α → V) (g : α → Value) (h : ∀ x, Rel ρ M w (f x) (g x)) : ∀ l : List α, RelL ρ M w (l.map f) (l.map g)
  | [] => by simp [RelL]
  | x :: l => by simp only [List.map_cons, RelL]; exact ⟨h x, RelL.map_fn f g h l⟩

theorem norm_ok {E : Env} {S : Start} {keep : List (Nat × Sh)} {s : St} {vs : List V} {H : List Blk} (hn : norm E.nb keep s = some (vs, H)) {a : Act} {w : World} (hI : Inv E S s a w) : Inv E S ⟨mkT keep vs, H⟩ a w := by
  obtain ⟨ρ, hr, h1, h2, h3, h4⟩ := hI
  unfold norm at hn
  split at hn
  · rename_i vs' acc hs
    obtain ⟨hok, hn⟩ := cond_some hn
    simp only [Option.some.injEq, Prod.mk.injEq] at hn
    obtain ⟨rfl, rfl⟩ := hn
    obtain ⟨⟨more, hsrc⟩, hk⟩ := shapeL_ok _ _ _ _ _ hs
    have hst : ∀ j : Nat, (startAcc E.nb s.H).src[j]? = if j < E.nb then some (some j) else none := by
      intro j
      simp only [startAcc, List.getElem?_map]
      by_cases hj : j < E.nb
      · rw [List.getElem?_range hj, if_pos hj]; rfl
      · rw [List.getElem?_eq_none (by simp; omega), if_neg hj]; rfl
    have hlen0 : (startAcc E.nb s.H).src.length = E.nb := by simp [startAcc]
    have hst2 : ∀ j : Nat, j < E.nb → (startAcc E.nb s.H).blks[j]? = s.H[j]? := fun j hj => by simp [startAcc, List.getElem?_take, hj]
    have hacc0 : AccOK (blkAt s.H) (startAcc E.nb s.H) := by
      refine ⟨by simp [startAcc, h3], ?_, ?_, ?_⟩
      · intro i j id hi hj
        rw [hst] at hi hj
        split at hi <;> split at hj <;> simp_all
      · intro j hj; rw [hst] at hj; split at hj <;> simp at hj
      · intro j id x hj hx hl
        rw [hst] at hj
        split at hj
        · rename_i hlt
          rw [hst2 j hlt] at hx
          simp only [Option.some.injEq] at hj
          subst hj
          rw [blkAt_of hx]; exact hl
        · cases hj
    obtain ⟨hA, hR⟩ := hk hacc0
    let ρ' : Rho := fun j => match acc.src[j]? with
      | some (some id) => ρ id
      | some none => some ⟨none, 0, 0⟩
      | none => none
    have hc : Cons ρ ρ' acc.src := ⟨fun j id hj => by simp only [ρ', hj], fun j hj => by simp only [ρ', hj]⟩
    have hpre : ∀ j, j < E.nb → acc.src[j]? = some (some j) := fun j hj => by
      rw [hsrc, List.getElem?_append_left (by rw [hlen0]; exact hj), hst, if_pos hj]
    have hρ' : ∀ j, j < E.nb → ρ' j = ρ j := fun j hj => hc.old j j (hpre j hj)
    have hb0 : BlksOK (blkAt s.H) ρ ρ' (av S.F (liveM ρ (blkAt s.H))) w (startAcc E.nb s.H) := by
      intro j id x p hj hx hp hb
      rw [hst] at hj
      split at hj
      · rename_i hlt
        simp only [Option.some.injEq] at hj
        subst hj
        rw [hst2 j hlt] at hx
        rw [blkAt_of hx] at hb
        refine hb.agree (fun i hi p hp => ?_)
        have hin : x ∈ s.H.take E.nb := List.mem_of_getElem? (i := j) (by rw [List.getElem?_take, if_pos hlt]; exact hx)
        rw [hρ' i (blksOk_spec _ _ hok x hin i hi)]; exact hp
      · cases hj
    obtain ⟨hB, hV⟩ := hR ρ ρ' _ w (fun id p hl hp => by obtain ⟨p', hp', hb'⟩ := hr.heap.rel id hl; rw [hp] at hp'; cases hp'; exact hb') hc hb0
    have hsrcOf : ∀ j, (blkAt acc.blks j).live → (∃ id, acc.src[j]? = some (some id) ∧ ρ' j = ρ id ∧ (blkAt s.H id).live) ∨ (acc.src[j]? = some none ∧ ρ' j = some ⟨none, 0, 0⟩ ∧ Hollow (blkAt acc.blks j)) := by
      intro j hl
      have hx := blkAt_some hl
      have hj : j < acc.src.length := by rw [hA.len]; exact (List.getElem?_eq_some_iff.mp hx).1
      cases hsj : acc.src[j] with
      | some id =>
        have h0 : acc.src[j]? = some (some id) := by rw [List.getElem?_eq_getElem hj, hsj]
        exact .inl ⟨id, h0, hc.old j id h0, hA.live j id _ h0 hx hl⟩
      | none =>
        have h0 : acc.src[j]? = some none := by rw [List.getElem?_eq_getElem hj, hsj]
        obtain ⟨x, hk, hho⟩ := hA.virt j h0
        exact .inr ⟨h0, hc.nil j h0, by rw [blkAt_of hk]; exact hho⟩
    have hM : ∀ b, liveM ρ' (blkAt acc.blks) b → liveM ρ (blkAt s.H) b := by
      rintro b ⟨j, n, C, hp, hl⟩
      rcases hsrcOf j hl with ⟨id, _, g2, g3⟩ | ⟨_, g2, _⟩
      · rw [g2] at hp; exact ⟨id, n, C, hp, g3⟩
      · rw [g2] at hp; cases hp
    have hMa : ∀ b, av S.F (liveM ρ' (blkAt acc.blks)) b → av S.F (liveM ρ (blkAt s.H)) b := fun b hb => hb.imp id (hM b)
    refine ⟨ρ', ⟨⟨?_, ?_, ?_, hr.heap.low, fun b hb => hr.heap.out b (hM b hb)⟩, ?_, hr.size, hr.defers⟩, ?_, fun j hj => by rw [hρ' j hj]; exact h2 j hj, ?_, ⟨h4.size, h4.same, fun b hb => h4.sub b (hM b hb), h4.keeps⟩⟩
    · intro j p hp
      simp only [ρ'] at hp
      split at hp
      · exact hr.heap.wf _ _ hp
      · simp only [Option.some.injEq] at hp; subst hp; exact Nat.le_refl _
      · cases hp
    · intro j hl
      dsimp only at hl ⊢
      rcases hsrcOf j hl with ⟨id, g1, g2, g3⟩ | ⟨_, g2, g3⟩
      · obtain ⟨p, hp, hb⟩ := hr.heap.rel id g3
        exact ⟨p, by rw [g2]; exact hp, BlkRel.avoid hMa (hB j id _ p g1 (blkAt_some hl) hp hb)⟩
      · exact ⟨_, g2, by rcases g3 with ⟨k, g3⟩ | ⟨k, s, g3⟩ <;> rw [g3] <;> exact ⟨rfl, .inl ⟨rfl, rfl, rfl⟩⟩⟩
    · intro i j b n C n' C' hi hj hpi hpj
      rcases hsrcOf i hi with ⟨id, g1, g2, g3⟩ | ⟨_, g2, _⟩
      · rcases hsrcOf j hj with ⟨id', g1', g2', g3'⟩ | ⟨_, g2', _⟩
        · rw [g2] at hpi; rw [g2'] at hpj
          have := hr.heap.inj id id' b _ _ _ _ g3 g3' hpi hpj
          subst this
          exact hA.nodup i j id g1 g1'
        · rw [g2'] at hpj; cases hpj
      · rw [g2] at hpi; cases hpi
    · intro t
      refine Rel.avoid hMa _ _ ?_
      refine look_mkT keep (look s.T) vs' [] ρ' _ w (fun t => a.eval (.tmp t)) (hV _ ?_) t
      exact RelL.map_fn _ _ (fun p => hr.tmps p.1) keep
    · intro j hj
      dsimp only at hj
      rw [← hA.len] at hj
      simp only [ρ', List.getElem?_eq_none hj]
    · dsimp only
      rw [← hA.len, hsrc]; simp [hlen0]
  · cases hn

theorem normB_ok {E : Env} {S : Start} {bsh : List (Nat × List Sh)} {keep : List (Nat × Sh)} {s : St} {vs : List V} {H : List Blk} (hn : normB E.nb bsh keep s = some (vs, H)) {a : Act} {w : World} (hI : Inv E S s a w) : Inv E S ⟨mkT keep vs, H⟩ a w := by
  obtain ⟨ρ, hr, h1, h2, h3, h4⟩ := hI
  unfold normB at hn
  split at hn
  · rename_i vs' acc0 hs
    split at hn
    rotate_left
    · cases hn
    rename_i acc hsB
    obtain ⟨hok0, hn⟩ := cond_some hn
    obtain ⟨hok, hall⟩ := two_true hok0
    simp only [Option.some.injEq, Prod.mk.injEq] at hn
    obtain ⟨rfl, rfl⟩ := hn
    obtain ⟨⟨more0, hsrc0⟩, hk0⟩ := shapeL_ok _ _ _ _ _ hs
    obtain ⟨⟨more1, hsrc1⟩, hk1⟩ := shapeB_ok _ _ _ hsB
    have hsrc : acc.src = (List.range E.nb).map some ++ (more0 ++ more1) := by rw [hsrc1, hsrc0, List.append_assoc]
    have hst : ∀ j : Nat, ((List.range E.nb).map some)[j]? = if j < E.nb then some (some j) else none := by
      intro j
      simp only [List.getElem?_map]
      by_cases hj : j < E.nb
      · rw [List.getElem?_range hj, if_pos hj]; rfl
      · rw [List.getElem?_eq_none (by simp; omega), if_neg hj]; rfl
    have hlen0 : ((List.range E.nb).map some).length = E.nb := by simp
    have hst2 : ∀ j : Nat, j < E.nb → (killB bsh (s.H.take E.nb))[j]? = s.H[j]? ∨ (killB bsh (s.H.take E.nb))[j]? = some .dead := fun j hj => by
      rcases killB_cases bsh (s.H.take E.nb) j with h | h
      · exact .inl (h.trans (by simp [List.getElem?_take, hj]))
      · exact .inr h
    have hacc0 : AccOK (blkAt s.H) ⟨(List.range E.nb).map some, killB bsh (s.H.take E.nb)⟩ := by
      refine ⟨by simp [killB_length, h3], ?_, ?_, ?_⟩
      · intro i j id hi hj
        rw [hst] at hi hj
        split at hi <;> split at hj <;> simp_all
      · intro j hj; rw [hst] at hj; split at hj <;> simp at hj
      · intro j id x hj hx hl
        rw [hst] at hj
        split at hj
        · rename_i hlt
          simp only [Option.some.injEq] at hj
          subst hj
          rcases hst2 j hlt with g | g
          · dsimp only at hx
            rw [g] at hx
            rw [blkAt_of hx]; exact hl
          · dsimp only at hx
            rw [g] at hx
            simp only [Option.some.injEq] at hx
            subst hx; exact hl.elim
        · cases hj
    obtain ⟨hA0, hR0⟩ := hk0 hacc0
    have hpre0 : ∀ p ∈ bsh, acc0.src[p.1]? = some (some p.1) := fun p hp => by
      have := List.all_eq_true.mp hall p hp
      have := blt_lt this
      rw [hsrc0, List.getElem?_append_left (by rw [hlen0]; exact this), hst, if_pos this]
    obtain ⟨hA, hR1⟩ := hk1 hA0 hpre0
    let ρ' : Rho := fun j => match acc.src[j]? with
      | some (some id) => ρ id
      | some none => some ⟨none, 0, 0⟩
      | none => none
    have hc : Cons ρ ρ' acc.src := ⟨fun j id hj => by simp only [ρ', hj], fun j hj => by simp only [ρ', hj]⟩
    have hpre : ∀ j, j < E.nb → acc.src[j]? = some (some j) := fun j hj => by
      rw [hsrc, List.getElem?_append_left (by rw [hlen0]; exact hj), hst, if_pos hj]
    have hρ' : ∀ j, j < E.nb → ρ' j = ρ j := fun j hj => hc.old j j (hpre j hj)
    have hb0 : BlksOK (blkAt s.H) ρ ρ' (av S.F (liveM ρ (blkAt s.H))) w ⟨(List.range E.nb).map some, killB bsh (s.H.take E.nb)⟩ := by
      intro j id x p hj hx hp hb
      rw [hst] at hj
      split at hj
      · rename_i hlt
        simp only [Option.some.injEq] at hj
        subst hj
        dsimp only at hx
        have hin : x ∈ killB bsh (s.H.take E.nb) := List.mem_of_getElem? hx
        rcases hst2 j hlt with g | g
        · rw [g] at hx
          rw [blkAt_of hx] at hb
          refine hb.agree (fun i hi p hp => ?_)
          rw [hρ' i (blksOk_spec _ _ hok x hin i hi)]; exact hp
        · rw [g] at hx
          simp only [Option.some.injEq] at hx
          subst hx; trivial
      · cases hj
    have hHB : HB (blkAt s.H) ρ (av S.F (liveM ρ (blkAt s.H))) w := fun id p hl hp => by obtain ⟨p', hp', hb'⟩ := hr.heap.rel id hl; rw [hp] at hp'; cases hp'; exact hb'
    obtain ⟨hB0, hV⟩ := hR0 ρ ρ' _ w hHB (by rw [hsrc1] at hc; exact hc.pre) hb0
    have hB := hR1 ρ ρ' _ w hHB hc hB0
    have hsrcOf : ∀ j, (blkAt acc.blks j).live → (∃ id, acc.src[j]? = some (some id) ∧ ρ' j = ρ id ∧ (blkAt s.H id).live) ∨ (acc.src[j]? = some none ∧ ρ' j = some ⟨none, 0, 0⟩ ∧ Hollow (blkAt acc.blks j)) := by
      intro j hl
      have hx := blkAt_some hl
      have hj : j < acc.src.length := by rw [hA.len]; exact (List.getElem?_eq_some_iff.mp hx).1
      cases hsj : acc.src[j] with
      | some id =>
        have h0 : acc.src[j]? = some (some id) := by rw [List.getElem?_eq_getElem hj, hsj]
        exact .inl ⟨id, h0, hc.old j id h0, hA.live j id _ h0 hx hl⟩
      | none =>
        have h0 : acc.src[j]? = some none := by rw [List.getElem?_eq_getElem hj, hsj]
        obtain ⟨x, hk, hho⟩ := hA.virt j h0
        exact .inr ⟨h0, hc.nil j h0, by rw [blkAt_of hk]; exact hho⟩
    have hM : ∀ b, liveM ρ' (blkAt acc.blks) b → liveM ρ (blkAt s.H) b := by
      rintro b ⟨j, n, C, hp, hl⟩
      rcases hsrcOf j hl with ⟨id, _, g2, g3⟩ | ⟨_, g2, _⟩
      · rw [g2] at hp; exact ⟨id, n, C, hp, g3⟩
      · rw [g2] at hp; cases hp
    have hMa : ∀ b, av S.F (liveM ρ' (blkAt acc.blks)) b → av S.F (liveM ρ (blkAt s.H)) b := fun b hb => hb.imp id (hM b)
    refine ⟨ρ', ⟨⟨?_, ?_, ?_, hr.heap.low, fun b hb => hr.heap.out b (hM b hb)⟩, ?_, hr.size, hr.defers⟩, ?_, fun j hj => by rw [hρ' j hj]; exact h2 j hj, ?_, ⟨h4.size, h4.same, fun b hb => h4.sub b (hM b hb), h4.keeps⟩⟩
    · intro j p hp
      simp only [ρ'] at hp
      split at hp
      · exact hr.heap.wf _ _ hp
      · simp only [Option.some.injEq] at hp; subst hp; exact Nat.le_refl _
      · cases hp
    · intro j hl
      dsimp only at hl ⊢
      rcases hsrcOf j hl with ⟨id, g1, g2, g3⟩ | ⟨_, g2, g3⟩
      · obtain ⟨p, hp, hb⟩ := hr.heap.rel id g3
        exact ⟨p, by rw [g2]; exact hp, BlkRel.avoid hMa (hB j id _ p g1 (blkAt_some hl) hp hb)⟩
      · exact ⟨_, g2, by rcases g3 with ⟨k, g3⟩ | ⟨k, s, g3⟩ <;> rw [g3] <;> exact ⟨rfl, .inl ⟨rfl, rfl, rfl⟩⟩⟩
    · intro i j b n C n' C' hi hj hpi hpj
      rcases hsrcOf i hi with ⟨id, g1, g2, g3⟩ | ⟨_, g2, _⟩
      · rcases hsrcOf j hj with ⟨id', g1', g2', g3'⟩ | ⟨_, g2', _⟩
        · rw [g2] at hpi; rw [g2'] at hpj
          have := hr.heap.inj id id' b _ _ _ _ g3 g3' hpi hpj
          subst this
          exact hA.nodup i j id g1 g1'
        · rw [g2'] at hpj; cases hpj
      · rw [g2] at hpi; cases hpi
    · intro t
      refine Rel.avoid hMa _ _ ?_
      refine look_mkT keep (look s.T) vs' [] ρ' _ w (fun t => a.eval (.tmp t)) (hV _ ?_) t
      exact RelL.map_fn _ _ (fun p => hr.tmps p.1) keep
    · intro j hj
      dsimp only at hj
      rw [← hA.len] at hj
      simp only [ρ', List.getElem?_eq_none hj]
    · dsimp only
      rw [← hA.len, hsrc]; simp [hlen0]
  · cases hn

/- Results -/

section
variable {P : Program} {F : Nat → Prop} {ρ : Rho} {h : Nat → Blk} {w : World}

mutual
theorem freeze_ok (hh : HeapRel F ρ h w) {nb : Nat} {ρ' : Rho} {M' : Nat → Prop} (hρ : ∀ i, i < nb → ρ' i = ρ i) (hM : ∀ b, M' b → liveM ρ h b) (hM' : ∀ b, M' b → ∀ id n C, nb ≤ id → (h id).live → ρ id ≠ some ⟨some b, n, C⟩) :
    ∀ (sh : Sh) (v v' : V) (u : Value), freeze nb h sh v = some v' → Rel ρ (av F (liveM ρ h)) w v u → Rel ρ' (av F M') w v' u
  | .il k s, v, v', u, hf, hr => by
    have hMa : ∀ b, av F M' b → av F (liveM ρ h) b := fun b hb => hb.imp id (hM b)
    have key : ∀ id b n C, nb ≤ id → (h id).live → ρ id = some ⟨some b, n, C⟩ → ¬ av F M' b := fun id b n C h1 h2 h3 hb => hb.elim (fun hf => hh.out b ⟨id, n, C, h3, h2⟩ hf) (fun hm => hM' b hm id n C h1 h2 h3)
    unfold freeze at hf
    split at hf
    · obtain ⟨h0, hf⟩ := cond_some hf
      simp only [Option.some.injEq] at hf
      subst hf
      simp only [Rel] at hr ⊢
      exact ⟨blt_lt h0, by simp, .inl ⟨trivial, none, hr⟩⟩
    · obtain ⟨h0, hf⟩ := cond_some hf
      simp only [Option.some.injEq] at hf
      subst hf
      have := Rel.avoid hMa _ _ hr
      simpa only [Rel] using this
    · rename_i id s'
      obtain ⟨h0, hf2⟩ := cond_some hf
      clear hf
      simp only [Bool.and_eq_true] at h0
      have h1 := ble_le h0.1
      have h2 := beq_eq h0.2
      clear h0
      subst h2
      split at hf2
      · rename_i k' l hid
        obtain ⟨_, hf⟩ := cond_some hf2
        simp only [Option.some.injEq] at hf
        subst hf
        have hl : (h id).live := by rw [hid]; trivial
        obtain ⟨g0, ⟨b, n, C, cap, c, g1, g2, g3, g4, g5, ho, hsz, hold⟩ | ⟨g1, g2, hk⟩⟩ := sw_cells hh hr hl (by rw [hid]; trivial)
        · rw [hid] at hold
          obtain ⟨e1, e2, e3⟩ := hold
          simp only [Rel]
          refine ⟨g0, by rw [e1]; exact g2, .inr ⟨b, 0, cap, by rw [e1]; exact g5, by rw [e1]; exact g3, ho.lt, key id b n C h1 hl g1, fun j hj => ?_⟩⟩
          rw [Nat.zero_add, ho.cell]
          exact e3 j hj
        · rw [hid] at hk
          rcases hk with ⟨k2, hk⟩ | hk | ⟨_, _, hk⟩ <;> cases hk
          simp only [Rel]
          exact ⟨g0, by simp, .inl ⟨trivial, none, g2⟩⟩
      · cases hf2
    · rename_i id s' off len
      obtain ⟨h0, hf2⟩ := cond_some hf
      clear hf
      simp only [Bool.and_eq_true] at h0
      have h1 := ble_le h0.1
      have h2 := beq_eq h0.2
      clear h0
      subst h2
      split at hf2
      · rename_i k' l hid
        obtain ⟨_, hf⟩ := cond_some hf2
        simp only [Option.some.injEq] at hf
        subst hf
        have hl : (h id).live := by rw [hid]; trivial
        simp only [Rel] at hr ⊢
        obtain ⟨g0, ⟨b, n, C, cap, g1, g2, g3, g4, g5⟩ | ⟨g1, a, g2⟩⟩ := hr
        · obtain ⟨c, ho, hsz, hold⟩ := hh.own hl (by rw [hid]; trivial) g1
          rw [hid] at hold
          obtain ⟨e1, e2, e3⟩ := hold
          have hlen : ((l.drop off).take (mulw s len)).length = len * s := by rw [mulw_eq]; simp; omega
          rw [hlen]
          refine ⟨g0, Nat.mul_mod_left _ _, .inr ⟨b, off, cap, by rw [Nat.mul_div_cancel _ g0]; exact g5, by rw [Nat.mul_div_cancel _ g0]; exact g3, ho.lt, key id b n C h1 hl g1, fun j hj => ?_⟩⟩
          rw [ho.cell, e3 _ (by omega)]
          congr 2
          simp only [List.getD_eq_getElem?_getD]
          rw [List.getElem?_take_of_lt (by rw [mulw_eq]; omega), List.getElem?_drop]
        · subst g1
          have : (l.drop off).take (mulw s 0) = [] := by rw [mulw_eq]; simp
          rw [this]
          exact ⟨g0, by simp, .inl ⟨rfl, a, g2⟩⟩
      · cases hf2
    · cases hf
  | .recd ss, v, v', u, hf, hr => by
    unfold freeze at hf
    split at hf
    · rename_i cs
      split at hf
      · rename_i cs' hL
        simp only [Option.some.injEq] at hf
        subst hf
        simp only [Rel] at hr ⊢
        obtain ⟨vs, e, hr⟩ := hr
        exact ⟨vs, e, freezeL_ok hh hρ hM hM' ss cs cs' _ hL hr⟩
      · cases hf
    · cases hf
  | .tup ss, v, v', u, hf, hr => by
    unfold freeze at hf
    split at hf
    · rename_i cs
      split at hf
      · rename_i cs' hL
        simp only [Option.some.injEq] at hf
        subst hf
        simp only [Rel] at hr ⊢
        obtain ⟨vs, e, hr⟩ := hr
        exact ⟨vs, e, freezeL_ok hh hρ hM hM' ss cs cs' _ hL hr⟩
      · cases hf
    · cases hf
  | .any, v, v', u, hf, hr => by
    simp only [freeze] at hf
    obtain ⟨h0, hf⟩ := cond_some hf
    simp only [Option.some.injEq] at hf
    subst hf
    simp only [List.all_eq_true] at h0
    exact Rel.avoid (fun b hb => hb.imp id (hM b)) _ _ (hr.agree _ _ (fun i hi p hp => by rw [hρ i (blt_lt (h0 i hi))]; exact hp))
  | .row _ _, v, v', u, hf, hr => by
    simp only [freeze] at hf
    obtain ⟨h0, hf⟩ := cond_some hf
    simp only [Option.some.injEq] at hf
    subst hf
    simp only [List.all_eq_true] at h0
    exact Rel.avoid (fun b hb => hb.imp id (hM b)) _ _ (hr.agree _ _ (fun i hi p hp => by rw [hρ i (blt_lt (h0 i hi))]; exact hp))
  | .part _ _, v, v', u, hf, hr => by
    simp only [freeze] at hf
    obtain ⟨h0, hf⟩ := cond_some hf
    simp only [Option.some.injEq] at hf
    subst hf
    simp only [List.all_eq_true] at h0
    exact Rel.avoid (fun b hb => hb.imp id (hM b)) _ _ (hr.agree _ _ (fun i hi p hp => by rw [hρ i (blt_lt (h0 i hi))]; exact hp))
  | .nrow _ _, v, v', u, hf, hr => by
    simp only [freeze] at hf
    obtain ⟨h0, hf⟩ := cond_some hf
    simp only [Option.some.injEq] at hf
    subst hf
    simp only [List.all_eq_true] at h0
    exact Rel.avoid (fun b hb => hb.imp id (hM b)) _ _ (hr.agree _ _ (fun i hi p hp => by rw [hρ i (blt_lt (h0 i hi))]; exact hp))
  | .box _, v, v', u, hf, hr => by
    simp only [freeze] at hf
    obtain ⟨h0, hf⟩ := cond_some hf
    simp only [Option.some.injEq] at hf
    subst hf
    simp only [List.all_eq_true] at h0
    exact Rel.avoid (fun b hb => hb.imp id (hM b)) _ _ (hr.agree _ _ (fun i hi p hp => by rw [hρ i (blt_lt (h0 i hi))]; exact hp))
theorem freezeL_ok (hh : HeapRel F ρ h w) {nb : Nat} {ρ' : Rho} {M' : Nat → Prop} (hρ : ∀ i, i < nb → ρ' i = ρ i) (hM : ∀ b, M' b → liveM ρ h b) (hM' : ∀ b, M' b → ∀ id n C, nb ≤ id → (h id).live → ρ id ≠ some ⟨some b, n, C⟩) :
    ∀ (ss : List Sh) (vs vs' : List V) (us : List Value), freezeL nb h ss vs = some vs' → RelL ρ (av F (liveM ρ h)) w vs us → RelL ρ' (av F M') w vs' us
  | [], [], vs', us, hf, hr => by
    simp only [freezeL, Option.some.injEq] at hf
    subst hf
    cases us <;> simp_all [RelL]
  | s :: ss, v :: vs, vs', us, hf, hr => by
    unfold freezeL at hf
    split at hf
    · rename_i v1 h1
      split at hf
      · rename_i vs1 h2
        simp only [Option.some.injEq] at hf
        subst hf
        cases us with
        | nil => simp only [RelL] at hr
        | cons u us =>
          simp only [RelL] at hr ⊢
          exact ⟨freeze_ok hh hρ hM hM' s v v1 u h1 hr.1, freezeL_ok hh hρ hM hM' ss vs vs1 us h2 hr.2⟩
      · cases hf
    · cases hf
  | [], _ :: _, vs', us, hf, hr => by simp [freezeL] at hf
  | _ :: _, [], vs', us, hf, hr => by simp [freezeL] at hf
end

theorem resV_ok {E : Env} (hty : TyOK P E.ty) {s : St} {a : Act} (hr : Rep E F ρ (look s.T) (blkAt s.H) a w) : ∀ (rs : List ResultVar) (vs : List V), resV E s rs = some vs →
    ∃ us, RelL ρ (av F (liveM ρ (blkAt s.H))) w vs us ∧ (rs.mapM (m := Sem) fun
      | .tmp t => pure (a.tmps.getD t undef)
      | .cell x t => do loadVar t (← asAddr (a.tmps.getD x undef))).run P w = .ok us w
  | [], vs, h => by
    simp only [resV, Option.some.injEq] at h
    subst h
    exact ⟨[], by simp [RelL], by simp⟩
  | .tmp t :: r, vs, h => by
    simp only [resV] at h
    split at h
    · rename_i vs1 h1
      simp only [Option.some.injEq] at h
      subst h
      obtain ⟨us, g1, g2⟩ := resV_ok hty hr r vs1 h1
      refine ⟨_ :: us, ⟨hr.tmps t, g1⟩, ?_⟩
      simp only [List.mapM_cons, Sem.run_bind, Sem.run_pure, Result.andThen_ok, g2, Act.eval]
    · cases h
  | .cell x t :: r, vs, h => by
    simp only [resV] at h
    split at h
    · rename_i ti id off ext hti hx
      obtain ⟨h0, h⟩ := cond_some h
      simp only [Bool.and_eq_true] at h0
      have hle := ble_le h0.1
      have hpos := blt_lt h0.2
      split at h
      · rename_i v1 vs1 hv h1
        simp only [Option.some.injEq] at h
        subst h
        obtain ⟨us, g1, g2⟩ := resV_ok hty hr r vs1 h1
        have hx' := hr.tmps x
        rw [hx] at hx'
        simp only [Rel] at hx'
        obtain ⟨b, n, C, hp, hn, he⟩ := hx'
        have hlive : (blkAt s.H id).live := by
          cases hb : blkAt s.H id with
          | dead => rw [hb] at hv; simp [loadBlk] at hv
          | _ => trivial
        have h0' := hty _ _ hti
        obtain ⟨v, r1, r2⟩ := loadBlk_ok (b := b) (o := 0) h0' hpos (hr.heap.cellsAt hlive hp) (by omega) hv h0'.one
        rw [Nat.zero_add] at r1
        refine ⟨v :: us, ⟨r2, g1⟩, ?_⟩
        simp only [Act.eval] at he
        have ha : (asAddr (a.tmps.getD x undef)).run P w = .ok ⟨b, off, none⟩ w := by rw [he]; rfl
        simp only [List.mapM_cons, Sem.run_bind, Sem.run_pure, Result.andThen_ok, ha, r1, g2]
      · cases h
    · cases h

theorem one_ok {vs : List V} {us : List Value} {M : Nat → Prop} (hr : RelL ρ M w vs us) : Rel ρ M w (one vs) (if h : us.toArray.size = 1 then us.toArray[0] else .tuple us.toArray) := by
  have hl := hr.length
  unfold one
  split
  · rename_i v
    cases us with
    | nil => simp at hl
    | cons u us =>
      cases us with
      | nil => simp only [RelL] at hr; simpa using hr.1
      | cons => simp at hl
  · rename_i h1
    have hne : ¬ us.toArray.size = 1 := by
      intro he
      simp at he
      rw [← hl] at he
      obtain ⟨v, hv⟩ := List.length_eq_one_iff.mp he
      exact h1 v hv
    rw [dif_neg hne]
    simp only [Rel]
    exact ⟨_, rfl, by simpa using hr⟩

theorem look_mkArgs : ∀ (vs : List V) (us : List Value) (i t : Nat) (ρ : Rho) (M : Nat → Prop) (w : World) (d : Value), RelL ρ M w vs us → Rel ρ M w (look (mkArgs i vs) t) (if i ≤ t ∧ t < i + us.length then us.getD (t - i) undef else d)
  | [], us, i, t, ρ, M, w, d, hr => by simp only [mkArgs, look, Rel]
  | v :: vs, [], i, t, ρ, M, w, d, hr => by simp only [RelL] at hr
  | v :: vs, u :: us, i, t, ρ, M, w, d, hr => by
    simp only [RelL] at hr
    simp only [mkArgs, look]
    cases hb : Nat.beq i t <;> simp only [cond_true, cond_false]
    · have hne : i ≠ t := fun e => by subst e; simp at hb
      have := look_mkArgs vs us (i + 1) t ρ M w d hr.2
      by_cases hc : i ≤ t ∧ t < i + (us.length + 1)
      · rw [if_pos (by omega)] at this
        rw [if_pos (by simp; omega)]
        have e : t - i = (t - (i + 1)) + 1 := by omega
        rw [e]
        simpa using this
      · rw [if_neg (by omega)] at this
        rw [if_neg (by simp; omega)]
        exact this
    · have := beq_eq hb
      subst this
      rw [if_pos (by simp)]
      simpa using hr.1

theorem relL_of_look {ρ : Rho} {M : Nat → Prop} {w : World} : ∀ (i : Nat) (ss : List Sh) (vs : List V) (us : List Value), vs.length = ss.length → us.length = ss.length → (∀ t, Rel ρ M w (look (mkT (zipSh i ss) vs) (i + t)) (us.getD t undef)) → RelL ρ M w vs us
  | i, [], [], [], _, _, _ => by simp only [RelL]
  | i, s :: ss, v :: vs, u :: us, h1, h2, h => by
    simp only [RelL]
    have h0 := h 0
    simp only [zipSh, mkT, look, Nat.add_zero, Nat.beq_refl, cond_true] at h0
    refine ⟨by simpa using h0, relL_of_look (i + 1) ss vs us (by simpa using h1) (by simpa using h2) fun t => ?_⟩
    have ht := h (t + 1)
    have hb : Nat.beq i (i + (t + 1)) = false := by
      cases hc : Nat.beq i (i + (t + 1)) with
      | false => rfl
      | true => have := beq_eq hc; omega
    simp only [zipSh, mkT, look, hb, cond_false] at ht
    have e : i + 1 + t = i + (t + 1) := by omega
    rw [e]
    simpa using ht
  | i, [], _ :: _, _, h1, _, _ => by simp at h1
  | i, _ :: _, [], _, h1, _, _ => by simp at h1
  | i, [], [], _ :: _, _, h2, _ => by simp at h2
  | i, _ :: _, _ :: _, [], _, h2, _ => by simp at h2

/-- What a function answers at its end. -/
def RetOK (P : Program) (fn : Func) (S : Start) (v : V) (bs : List Blk) (a : Act) (w : World) : Prop :=
  a.defers = [] ∧ ∃ u, (results fn a.tmps).run P w = .ok u w ∧ FnPost S.F S.ρ S.bs S.w v bs u w

theorem fin_ok {E : Env} {fn : Func} (hty : TyOK P E.ty) (hres : E.res = fn.results.toList) {S : Start} (hnb : E.nb = S.bs.length) {s : St} {v : V} {bs : List Blk} (hf : fin E s = some (v, bs)) {a : Act} (hI : Inv E S s a w) : RetOK P fn S v bs a w := by
  obtain ⟨ρ, hr, h1, h2, h3, h4⟩ := hI
  refine ⟨hr.defers, ?_⟩
  unfold fin at hf
  split at hf
  · cases hf
  · rename_i vs hvs
    have hf0 := hf; clear hf
    cases hrow : E.own <;> rw [hrow] at hf0 <;> simp only [cond_true, cond_false] at hf0
    rotate_left
    · split at hf0
      · cases hf0
      · rename_i vs' H' hn
        obtain ⟨hok, hf⟩ := cond_some hf0
        simp only [Option.some.injEq, Prod.mk.injEq] at hf
        obtain ⟨rfl, rfl⟩ := hf
        simp only [Bool.and_eq_true] at hok
        have hl1 := beq_eq hok.1
        have hl2 := beq_eq hok.2
        obtain ⟨us, g1, g2⟩ := resV_ok hty hr _ _ hvs
        have hlu := g1.length
        refine ⟨if h : us.toArray.size = 1 then us.toArray[0] else .tuple us.toArray, ?_, ?_⟩
        · unfold results
          rw [← Array.toArray_toList (xs := fn.results), List.mapM_toArray, ← hres]
          simp only [bind_map_left, Sem.run_bind, Sem.run_pure]
          exact (congrArg (fun r => Result.andThen r _) g2).trans rfl
        · have hev : ∀ t, Act.eval ⟨us.toArray, []⟩ (.tmp t) = us.getD t undef := fun t => by simp [Act.eval, List.getD_eq_getElem?_getD]
          have hI1 : Inv { E with ntmps := us.length } S ⟨mkArgs 0 vs, s.H⟩ ⟨us.toArray, []⟩ w := by
            refine ⟨ρ, ⟨hr.heap, fun t => ?_, by simp, rfl⟩, h1, h2, h3, h4⟩
            have := look_mkArgs vs us 0 t ρ (av S.F (liveM ρ (blkAt s.H))) w undef g1
            rw [hev]
            dsimp only
            split at this
            · simpa using this
            · rename_i hge
              have : us.getD t undef = undef := by
                rw [List.getD_eq_getElem?_getD, List.getElem?_eq_none (by omega)]; rfl
              rw [this]; assumption
          obtain ⟨ρ', k1, k2, k3, k4, k5⟩ := normB_ok (E := { E with ntmps := us.length }) hn hI1
          refine ⟨ρ', fun j hj => k3 j (by dsimp only; omega), k2, k1.heap, one_ok (relL_of_look 0 E.rsh vs' us hl2 (by omega) fun t => ?_), k5⟩
          have := k1.tmps t
          rw [hev] at this
          rw [Nat.zero_add]; exact this
    have hf := hf0; clear hf0
    split at hf
    · cases hf
    · rename_i vs' hfz
      obtain ⟨hok, hf⟩ := cond_some hf
      simp only [Option.some.injEq, Prod.mk.injEq] at hf
      obtain ⟨rfl, rfl⟩ := hf
      obtain ⟨us, g1, g2⟩ := resV_ok hty hr _ _ hvs
      refine ⟨if h : us.toArray.size = 1 then us.toArray[0] else .tuple us.toArray, ?_, ?_⟩
      · unfold results
        rw [← Array.toArray_toList (xs := fn.results), List.mapM_toArray, ← hres]
        simp only [bind_map_left, Sem.run_bind, Sem.run_pure]
        exact (congrArg (fun r => Result.andThen r _) g2).trans rfl
      · let ρ' : Rho := fun j => if j < E.nb then ρ j else none
        have hρ' : ∀ j, j < E.nb → ρ' j = ρ j := fun j hj => if_pos hj
        have hbt : ∀ j, blkAt (s.H.take E.nb) j = if j < E.nb then blkAt s.H j else .dead := fun j => by
          rw [blkAt_getD, blkAt_getD, List.getD_eq_getElem?_getD, List.getD_eq_getElem?_getD, List.getElem?_take]
          split <;> rfl
        have hlive : ∀ j, (blkAt (s.H.take E.nb) j).live → j < E.nb ∧ (blkAt s.H j).live := fun j hl => by
          rw [hbt] at hl
          split at hl
          · exact ⟨by assumption, hl⟩
          · exact hl.elim
        have hM : ∀ b, liveM ρ' (blkAt (s.H.take E.nb)) b → liveM ρ (blkAt s.H) b := by
          rintro b ⟨j, n, C, hp, hl⟩
          obtain ⟨k1, k2⟩ := hlive j hl
          rw [hρ' j k1] at hp
          exact ⟨j, n, C, hp, k2⟩
        have hMa : ∀ b, av S.F (liveM ρ' (blkAt (s.H.take E.nb))) b → av S.F (liveM ρ (blkAt s.H)) b := fun b hb => hb.imp id (hM b)
        refine ⟨ρ', fun j hj => ?_, fun j hj => ?_, ⟨?_, ?_, ?_, hr.heap.low, fun b hb => hr.heap.out b (hM b hb)⟩, ?_, ⟨h4.size, h4.same, fun b hb => h4.sub b (hM b hb), h4.keeps⟩⟩
        · rw [hρ' j (by omega)]; exact h2 j (by omega)
        · have : ¬ j < E.nb := by simp [List.length_take] at hj; omega
          exact if_neg this
        · intro j p hp
          simp only [ρ'] at hp
          split at hp
          · exact hr.heap.wf _ _ hp
          · cases hp
        · intro j hl
          obtain ⟨k1, k2⟩ := hlive j hl
          obtain ⟨p, hp, hb⟩ := hr.heap.rel j k2
          refine ⟨p, by rw [hρ' j k1]; exact hp, ?_⟩
          rw [hbt, if_pos k1]
          refine BlkRel.avoid hMa (hb.agree (fun i hi p hp => ?_))
          have hin : blkAt s.H j ∈ s.H.take E.nb := List.mem_of_getElem? (i := j) (by rw [List.getElem?_take, if_pos k1]; exact blkAt_some k2)
          rw [hρ' i (blksOk_spec _ _ hok _ hin i hi)]; exact hp
        · intro i j b n C n' C' hi hj hpi hpj
          obtain ⟨k1, k2⟩ := hlive i hi
          obtain ⟨k3, k4⟩ := hlive j hj
          rw [hρ' i k1] at hpi
          rw [hρ' j k3] at hpj
          exact hr.heap.inj i j b _ _ _ _ k2 k4 hpi hpj
        · refine one_ok (freezeL_ok hr.heap hρ' hM ?_ _ _ _ _ hfz g1)
          rintro b ⟨j, n, C, hp, hl⟩ id n' C' hid hli hpi
          obtain ⟨k1, k2⟩ := hlive j hl
          rw [hρ' j k1] at hp
          have := hr.heap.inj j id b _ _ _ _ k2 hli hp hpi
          omega

end
end Go.Proofs.Ytlofhdoefjmabaa.Ev
