/-
  The evaluator's blocks in the world: made, written, let go. (A text of ours; no condition.)
-/
import Derived.Test.YtnjlpjdncejfcaaEvOps3
namespace Go.Proofs.Ytnjlpjdncejfcaa.Ev
set_option linter.unusedVariables false
set_option linter.unusedSimpArgs false

section
variable {P : Program} {F : Nat → Prop} {ρ : Rho} {h : Nat → Blk} {w : World} {nid : Nat}

/-- What a row of cells must hold for a block of ours. -/
def Holds (ρ : Rho) (M : Nat → Prop) (w : World) (n : Nat) (c : Array Value) : Blk → Prop
  | .dead => False
  | .ints k l => l.length = n ∧ n ≤ c.size ∧ ∀ i, i < l.length → c[i]? = some (.int k (l.getD i 0))
  | .vals cs => cs.length = n ∧ n ≤ c.size ∧ RelL ρ M w cs (c.toList.take n)

theorem Holds.mono {ρ ρ' : Rho} {F M M' : Nat → Prop} {w w' : World} {n : Nat} {c : Array Value} {x : Blk} (hs : Sub ρ ρ') (he : Ext M w M' w') (h : Holds ρ (av F M) w n c x) : Holds ρ' (av F M') w' n c x := by
  cases x with
  | dead => exact h
  | ints k l => exact h
  | vals cs => exact ⟨h.1, h.2.1, RelL.mono hs he _ _ h.2.2⟩

theorem Holds.le {M : Nat → Prop} {n : Nat} {c : Array Value} {x : Blk} (h : Holds ρ M w n c x) : n ≤ c.size := by
  cases x with
  | dead => exact h.elim
  | ints k l => exact h.2.1
  | vals cs => exact h.2.1

theorem Holds.live {M : Nat → Prop} {n : Nat} {c : Array Value} {x : Blk} (h : Holds ρ M w n c x) : x.live := by
  cases x with
  | dead => exact h.elim
  | _ => trivial

theorem Holds.blkRel {M : Nat → Prop} {n b : Nat} {c : Array Value} {x : Blk} (h : Holds ρ M w n c x) (ho : Own w b c.size c) : BlkRel ρ M w ⟨some b, n, c.size⟩ x := by
  cases x with
  | dead => trivial
  | ints k l => exact ⟨h.1, .inr ⟨b, c, rfl, ho, h.2.1, h.2.2⟩⟩
  | vals cs => exact ⟨h.1, .inr ⟨b, c, rfl, ho, h.2.1, h.2.2⟩⟩

/-- A live block of ours: where it lies. -/
theorem HeapRel.own (hh : HeapRel F ρ h w) {id b n C : Nat} (hl : (h id).live) (hp : ρ id = some ⟨some b, n, C⟩) : ∃ c, Own w b C c ∧ c.size = C ∧ Holds ρ (av F (liveM ρ h)) w n c (h id) := by
  obtain ⟨p, h1, h2⟩ := hh.rel id hl
  rw [hp] at h1
  simp only [Option.some.injEq] at h1
  subst h1
  cases hx : h id with
  | dead => rw [hx] at hl; exact hl.elim
  | ints k l =>
    rw [hx] at h2
    obtain ⟨h3, ⟨h5, _⟩ | ⟨b', c, h5, h6, h7, h8⟩⟩ := h2
    · cases h5
    · simp only [Option.some.injEq] at h5
      subst h5
      have hsz : c.size = C := by obtain ⟨e, fr, _, q, _⟩ := h6; exact q
      exact ⟨c, h6, hsz, h3, by rw [hsz]; exact h7, h8⟩
  | vals cs =>
    rw [hx] at h2
    obtain ⟨h3, ⟨h5, _⟩ | ⟨b', c, h5, h6, h7, h8⟩⟩ := h2
    · cases h5
    simp only [Option.some.injEq] at h5
    subst h5
    have hsz : c.size = C := by obtain ⟨e, fr, _, q, _⟩ := h6; exact q
    exact ⟨c, h6, hsz, h3, by rw [hsz]; exact h7, h8⟩

theorem Own.lt {b C : Nat} {c : Array Value} (ho : Own w b C c) : b < w.heap.size := by
  obtain ⟨e, fr, h1, _⟩ := ho
  exact (Array.getElem?_eq_some_iff.mp h1).1

theorem liveM.lt (hh : HeapRel F ρ h w) {b : Nat} (hb : liveM ρ h b) : b < w.heap.size := by
  obtain ⟨id, n, C, hp, hl⟩ := hb
  obtain ⟨c, ho, _⟩ := hh.own hl hp
  exact ho.lt

theorem HeapRel.low' (hh : HeapRel F ρ h w) {M' : Nat → Prop} {w' : World} (he : Ext (liveM ρ h) w M' w') : ∀ b, F b → b < w'.heap.size := fun b hb => Nat.lt_of_lt_of_le (hh.low b hb) he.size
theorem HeapRel.out' (hh : HeapRel F ρ h w) {M' : Nat → Prop} {w' : World} (he : Ext (liveM ρ h) w M' w') : ∀ b, M' b → ¬ F b := fun b hb hf => (he.sub b hb).elim (fun h => hh.out b h hf) (fun h => absurd (hh.low b hf) (by omega))

def setH (h : Nat → Blk) (id : Nat) (x : Blk) : Nat → Blk := fun j => if j = id then x else h j
def setR (ρ : Rho) (id : Nat) (p : Pl) : Rho := fun j => if j = id then some p else ρ j

theorem setR_wf {p : Pl} (hw : ∀ id p, ρ id = some p → p.n ≤ p.C) (hp : p.n ≤ p.C) : ∀ id q, setR ρ nid p id = some q → q.n ≤ q.C := by
  intro id q hq
  unfold setR at hq
  split at hq
  · simp only [Option.some.injEq] at hq; subst hq; exact hp
  · exact hw id q hq

theorem setR_sub {p : Pl} (hn : ρ nid = none) : Sub ρ (setR ρ nid p) := by
  intro id q hq
  unfold setR
  split
  · rename_i e; subst e; rw [hn] at hq; cases hq
  · exact hq

/-- Let go. -/
theorem HeapRel.kill (hh : HeapRel F ρ h w) (id : Nat) : HeapRel F ρ (setH h id .dead) w ∧ Ext (liveM ρ h) w (liveM ρ (setH h id .dead)) w := by
  have hsub : ∀ b, liveM ρ (setH h id .dead) b → liveM ρ h b := by
    rintro b ⟨j, n, C, hp, hl⟩
    refine ⟨j, n, C, hp, ?_⟩
    unfold setH at hl
    split at hl
    · exact hl.elim
    · exact hl
  have hext : Ext (liveM ρ h) w (liveM ρ (setH h id .dead)) w := ⟨Nat.le_refl _, fun _ _ _ => rfl, fun b hb => .inl (hsub b hb), .refl _⟩
  refine ⟨⟨hh.wf, ?_, ?_, hh.low' hext, hh.out' hext⟩, hext⟩
  · intro j hl
    have hj : setH h id .dead j = h j := by
      unfold setH at hl ⊢
      split
      · rename_i e; rw [if_pos e] at hl; exact hl.elim
      · rfl
    rw [hj] at hl ⊢
    obtain ⟨p, hp, hb⟩ := hh.rel j hl
    exact ⟨p, hp, BlkRel.mono (Sub.refl _) hext hb (fun _ _ => rfl)⟩
  · intro i j b n C n' C' hi hj
    have lv : ∀ {k}, (setH h id .dead k).live → (h k).live := by
      intro k hk
      unfold setH at hk
      split at hk
      · exact hk.elim
      · exact hk
    exact hh.inj i j b n C n' C' (lv hi) (lv hj)

/-- Made. -/
theorem HeapRel.alloc (hh : HeapRel F ρ h w) (hn : ρ nid = none) {c : Array Value} {e : TypeId} {fr : Nat × Nat} {n : Nat} {x : Blk} (hfr : ∀ i, i < c.size → ¬ (fr.1 ≤ i ∧ i < fr.2)) (hx : Holds ρ (av F (liveM ρ h)) w n c x) {w' : World} (hkp : Keeps w w') (hw : w'.heap = w.heap.push (.cells c e fr)) :
    HeapRel F (setR ρ nid ⟨some w.heap.size, n, c.size⟩) (setH h nid x) w' ∧ Ext (liveM ρ h) w (liveM (setR ρ nid ⟨some w.heap.size, n, c.size⟩) (setH h nid x)) w' := by
  have hnew : w'.heap[w.heap.size]? = some (.cells c e fr) := by rw [hw]; simp
  have hold : ∀ b, b < w.heap.size → w'.heap[b]? = w.heap[b]? := by
    intro b hb; rw [hw, Array.getElem?_push]; split
    · omega
    · rfl
  have hown : Own w' w.heap.size c.size c := ⟨e, fr, hnew, rfl, hfr⟩
  have hsub : ∀ b, liveM (setR ρ nid ⟨some w.heap.size, n, c.size⟩) (setH h nid x) b → liveM ρ h b ∨ w.heap.size ≤ b := by
    rintro b ⟨j, m, C, hp, hl⟩
    unfold setR at hp; unfold setH at hl
    split at hp
    · simp only [Option.some.injEq, Pl.mk.injEq] at hp
      obtain ⟨h1, _⟩ := hp
      exact .inr (by omega)
    · rename_i hne
      rw [if_neg hne] at hl
      exact .inl ⟨j, m, C, hp, hl⟩
  have hext : Ext (liveM ρ h) w (liveM (setR ρ nid ⟨some w.heap.size, n, c.size⟩) (setH h nid x)) w' := ⟨by rw [hw]; simp, fun b hb _ => hold b hb, hsub, hkp⟩
  refine ⟨⟨setR_wf hh.wf hx.le, ?_, ?_, hh.low' hext, hh.out' hext⟩, hext⟩
  · intro j hl
    by_cases hj : j = nid
    · subst hj
      refine ⟨⟨some w.heap.size, n, c.size⟩, by simp [setR], ?_⟩
      have : setH h j x j = x := by simp [setH]
      rw [this]
      exact (hx.mono (setR_sub hn) hext).blkRel hown
    · have h1 : setH h nid x j = h j := by simp [setH, hj]
      rw [h1] at hl ⊢
      obtain ⟨p, hp, hb⟩ := hh.rel j hl
      refine ⟨p, by simp [setR, hj, hp], BlkRel.mono (setR_sub hn) hext hb ?_⟩
      intro b hb'
      refine hold b ?_
      obtain ⟨pb, pn, pC⟩ := p
      dsimp only at hb'
      subst hb'
      exact liveM.lt hh ⟨j, pn, pC, hp, hl⟩
  · intro i j b m C m' C' hi hj hpi hpj
    have key : ∀ {k m C}, (setH h nid x k).live → setR ρ nid ⟨some w.heap.size, n, c.size⟩ k = some ⟨some b, m, C⟩ → k ≠ nid → (h k).live ∧ ρ k = some ⟨some b, m, C⟩ ∧ b < w.heap.size := by
      intro k m C hk hpk hne
      have h1 : setH h nid x k = h k := by simp [setH, hne]
      have h2 : setR ρ nid ⟨some w.heap.size, n, c.size⟩ k = ρ k := by simp [setR, hne]
      rw [h1] at hk; rw [h2] at hpk
      exact ⟨hk, hpk, liveM.lt hh ⟨k, m, C, hpk, hk⟩⟩
    have new : ∀ {m C}, setR ρ nid ⟨some w.heap.size, n, c.size⟩ nid = some ⟨some b, m, C⟩ → b = w.heap.size := by
      intro m C hp
      simp [setR] at hp
      omega
    by_cases h1 : i = nid <;> by_cases h2 : j = nid
    · rw [h1, h2]
    · subst h1
      have := new hpi
      have := (key hj hpj h2).2.2
      omega
    · subst h2
      have := new hpj
      have := (key hi hpi h1).2.2
      omega
    · obtain ⟨a1, a2, _⟩ := key hi hpi h1
      obtain ⟨b1, b2, _⟩ := key hj hpj h2
      exact hh.inj i j b m C m' C' a1 b1 a2 b2

/-- Nothing yet (nil), under a name of ours. -/
theorem HeapRel.virtual (hh : HeapRel F ρ h w) (hn : ρ nid = none) {x : Blk} (hx : (∃ k, x = .ints k []) ∨ x = .vals []) :
    HeapRel F (setR ρ nid ⟨none, 0, 0⟩) (setH h nid x) w ∧ Ext (liveM ρ h) w (liveM (setR ρ nid ⟨none, 0, 0⟩) (setH h nid x)) w := by
  have lv : ∀ {j b m C}, setR ρ nid ⟨none, 0, 0⟩ j = some ⟨some b, m, C⟩ → (setH h nid x j).live → ρ j = some ⟨some b, m, C⟩ ∧ (h j).live := by
    intro j b m C hp hl
    unfold setR at hp; unfold setH at hl
    split at hp
    · simp at hp
    · rename_i hne; rw [if_neg hne] at hl; exact ⟨hp, hl⟩
  have hext : Ext (liveM ρ h) w (liveM (setR ρ nid ⟨none, 0, 0⟩) (setH h nid x)) w := ⟨Nat.le_refl _, fun _ _ _ => rfl, fun b hb => by
    obtain ⟨j, m, C, hp, hl⟩ := hb
    obtain ⟨h1, h2⟩ := lv hp hl
    exact .inl ⟨j, m, C, h1, h2⟩, .refl _⟩
  refine ⟨⟨setR_wf hh.wf (Nat.le_refl _), ?_, ?_, hh.low' hext, hh.out' hext⟩, hext⟩
  · intro j hl
    by_cases hj : j = nid
    · subst hj
      refine ⟨⟨none, 0, 0⟩, by simp [setR], ?_⟩
      rcases hx with ⟨k, rfl⟩ | rfl <;> simp [setH, BlkRel]
    · have h1 : setH h nid x j = h j := by simp [setH, hj]
      rw [h1] at hl ⊢
      obtain ⟨p, hp, hb⟩ := hh.rel j hl
      exact ⟨p, by simp [setR, hj, hp], BlkRel.mono (setR_sub hn) hext hb (fun _ _ => rfl)⟩
  · intro i j b m C m' C' hi hj hpi hpj
    obtain ⟨a1, a2⟩ := lv hpi hi
    obtain ⟨b1, b2⟩ := lv hpj hj
    exact hh.inj i j b m C m' C' a2 b2 a1 b1

/-- Written: the block 'b' of the name 'id', and no other. -/
theorem HeapRel.write (hh : HeapRel F ρ h w) {id b n : Nat} {c : Array Value} {x : Blk} (hl : (h id).live) (hp : ρ id = some ⟨some b, n, c.size⟩) {w' : World} (hsz0 : w'.heap.size = w.heap.size ∧ Keeps w w') (hw : ∀ b', b' ≠ b → w'.heap[b']? = w.heap[b']?)
    (ho : Own w' b c.size c) (hx : Holds ρ (av F (liveM ρ h)) w n c x) :
    HeapRel F ρ (setH h id x) w' ∧ Ext (liveM ρ h) w (liveM ρ (setH h id x)) w' := by
  have hbM : liveM ρ h b := ⟨id, n, _, hp, hl⟩
  obtain ⟨hsz, hkp⟩ := hsz0
  have lv : ∀ {j}, (setH h id x j).live → (h j).live := by
    intro j hj
    unfold setH at hj
    split at hj
    · rename_i e; subst e; exact hl
    · exact hj
  have hext : Ext (liveM ρ h) w (liveM ρ (setH h id x)) w' := ⟨by omega, fun b' _ hm => hw b' (fun e => hm (e ▸ hbM)), fun b' hb => by
    obtain ⟨j, m, C, h1, h2⟩ := hb
    exact .inl ⟨j, m, C, h1, lv h2⟩, hkp⟩
  refine ⟨⟨hh.wf, ?_, ?_, hh.low' hext, hh.out' hext⟩, hext⟩
  · intro j hj
    by_cases he : j = id
    · subst he
      refine ⟨_, hp, ?_⟩
      have : setH h j x j = x := by simp [setH]
      rw [this]
      exact (hx.mono (Sub.refl _) hext).blkRel ho
    · have h1 : setH h id x j = h j := by simp [setH, he]
      rw [h1] at hj ⊢
      obtain ⟨p, hpj, hb⟩ := hh.rel j hj
      refine ⟨p, hpj, BlkRel.mono (Sub.refl _) hext hb ?_⟩
      intro b' hb'
      refine hw b' (fun e => he ?_)
      subst e
      obtain ⟨pb, pn, pC⟩ := p
      dsimp only at hb'
      subst hb'
      exact hh.inj j id b' _ _ _ _ hj hl hpj hp
  · intro i j b' m C m' C' hi hj
    exact hh.inj i j b' m C m' C' (lv hi) (lv hj)

/-- A block let go and taken up again under a new name, with more of it known. -/
theorem HeapRel.retake (hh : HeapRel F ρ h w) (hn : ρ nid = none) {id b n m : Nat} {c : Array Value} {x : Blk} (hl : (h id).live) (hp : ρ id = some ⟨some b, n, c.size⟩) {w' : World} (hsz0 : w'.heap.size = w.heap.size ∧ Keeps w w') (hw : ∀ b', b' ≠ b → w'.heap[b']? = w.heap[b']?)
    (ho : Own w' b c.size c) (hx : Holds ρ (av F (liveM ρ h)) w m c x) :
    HeapRel F (setR ρ nid ⟨some b, m, c.size⟩) (setH (setH h id .dead) nid x) w' ∧ Ext (liveM ρ h) w (liveM (setR ρ nid ⟨some b, m, c.size⟩) (setH (setH h id .dead) nid x)) w' := by
  have hbM : liveM ρ h b := ⟨id, n, _, hp, hl⟩
  obtain ⟨hsz, hkp⟩ := hsz0
  have hne : id ≠ nid := by rintro rfl; rw [hn] at hp; cases hp
  have lv : ∀ {j b' m' C'}, j ≠ nid → setR ρ nid ⟨some b, m, c.size⟩ j = some ⟨some b', m', C'⟩ → (setH (setH h id .dead) nid x j).live → ρ j = some ⟨some b', m', C'⟩ ∧ (h j).live ∧ j ≠ id := by
    intro j b' m' C' hj hpj hlj
    have h1 : setR ρ nid ⟨some b, m, c.size⟩ j = ρ j := by simp [setR, hj]
    rw [h1] at hpj
    unfold setH at hlj
    rw [if_neg hj] at hlj
    split at hlj
    · exact hlj.elim
    · rename_i e; exact ⟨hpj, hlj, e⟩
  have hext : Ext (liveM ρ h) w (liveM (setR ρ nid ⟨some b, m, c.size⟩) (setH (setH h id .dead) nid x)) w' := ⟨by omega, fun b' _ hm => hw b' (fun e => hm (e ▸ hbM)), fun b' hb => by
    obtain ⟨j, m', C', h1, h2⟩ := hb
    by_cases hj : j = nid
    · subst hj
      simp [setR] at h1
      exact .inl (h1.1 ▸ hbM)
    · obtain ⟨a1, a2, _⟩ := lv hj h1 h2
      exact .inl ⟨j, m', C', a1, a2⟩, hkp⟩
  refine ⟨⟨setR_wf hh.wf hx.le, ?_, ?_, hh.low' hext, hh.out' hext⟩, hext⟩
  · intro j hj
    by_cases he : j = nid
    · subst he
      refine ⟨⟨some b, m, c.size⟩, by simp [setR], ?_⟩
      have : setH (setH h id .dead) j x j = x := by simp [setH]
      rw [this]
      exact (hx.mono (setR_sub hn) hext).blkRel ho
    · have h1 : setH (setH h id .dead) nid x j = setH h id .dead j := by simp [setH, he]
      rw [h1] at hj ⊢
      have hji : j ≠ id := by rintro rfl; simp [setH, Blk.live] at hj
      have h2 : setH h id .dead j = h j := by simp [setH, hji]
      rw [h2] at hj ⊢
      obtain ⟨p, hpj, hb⟩ := hh.rel j hj
      refine ⟨p, by simp [setR, he, hpj], BlkRel.mono (setR_sub hn) hext hb ?_⟩
      intro b' hb'
      refine hw b' (fun e => hji ?_)
      subst e
      obtain ⟨pb, pn, pC⟩ := p
      dsimp only at hb'
      subst hb'
      exact hh.inj j id b' _ _ _ _ hj hl hpj hp
  · intro i j b' m1 C1 m2 C2 hi hj hpi hpj
    have new : ∀ {m' C'}, setR ρ nid ⟨some b, m, c.size⟩ nid = some ⟨some b', m', C'⟩ → b' = b := by
      intro m' C' hp'
      simp [setR] at hp'
      exact hp'.1.symm
    by_cases h1 : i = nid <;> by_cases h2 : j = nid
    · rw [h1, h2]
    · subst h1
      have hb' := new hpi
      subst hb'
      obtain ⟨a1, a2, a3⟩ := lv h2 hpj hj
      exact absurd (hh.inj j id _ _ _ _ _ a2 hl a1 hp) a3
    · subst h2
      have hb' := new hpj
      subst hb'
      obtain ⟨a1, a2, a3⟩ := lv h1 hpi hi
      exact absurd (hh.inj i id _ _ _ _ _ a2 hl a1 hp) a3
    · obtain ⟨a1, a2, _⟩ := lv h1 hpi hi
      obtain ⟨b1, b2, _⟩ := lv h2 hpj hj
      exact hh.inj i j b' _ _ _ _ a2 b2 a1 b1

/-- Cells stored one behind the other. -/
theorem run_storeCells {b : Nat} : ∀ (vs : List Value) (w : World) (o i C : Nat) (c : Array Value), Own w b C c → o + i + vs.length ≤ C → (∀ v ∈ vs, v.oneCell' = true) →
    ∃ w' c', (storeCells ⟨b, o, none⟩ vs i).run P w = .ok () w' ∧ (w'.heap.size = w.heap.size ∧ Keeps w w') ∧ (∀ b', b' ≠ b → w'.heap[b']? = w.heap[b']?) ∧ Own w' b C c' ∧ c'.size = C ∧
      (∀ j, c'[j]? = if o + i ≤ j ∧ j < o + i + vs.length then vs[j - (o + i)]? else c[j]?)
  | [], w, o, i, C, c, ho, _, _ => by
    have hsz : c.size = C := by obtain ⟨e, fr, _, q, _⟩ := ho; exact q
    exact ⟨w, c, by simp [storeCells], ⟨rfl, .refl _⟩, fun _ _ => rfl, ho, hsz, fun j => by simp; omega⟩
  | v :: vs, w, o, i, C, c, ho, hle, hv => by
    obtain ⟨e, fr, h1, h2, h3⟩ := ho
    simp only [List.length_cons] at hle
    have hlt : o + i < c.size := by omega
    have hcell : w.cell? ⟨b, o + i, none⟩ = some c[o + i] := by simp [World.cell?, h1, hlt]
    have hfz : w.frozen? ⟨b, o + i, none⟩ = false := by
      simp only [World.frozen?, h1]
      have := h3 (o + i) (by omega)
      simp only [Bool.and_eq_false_iff, decide_eq_false_iff_not]
      omega
    have hb : b < w.heap.size := (Array.getElem?_eq_some_iff.mp h1).1
    let w1 := w.setCell ⟨b, o + i, none⟩ v
    have hh1 : w1.heap[b]? = some (.cells (c.setIfInBounds (o + i) v) e fr) := by
      simp only [w1, World.setCell, Array.getElem?_modify, h1, if_true, Option.map_some, Option.isSome_none, Bool.false_eq_true, if_false]
    have ho1 : Own w1 b C (c.setIfInBounds (o + i) v) := ⟨e, fr, hh1, by simpa using h2, h3⟩
    obtain ⟨w', c', r1, r2, r3, r4, r5, r6⟩ := run_storeCells vs w1 o (i + 1) C _ ho1 (by omega) (fun u hu => hv u (List.mem_cons_of_mem _ hu))
    have hrun : (storeCells ⟨b, o, none⟩ (v :: vs) i).run P w = (storeCells ⟨b, o, none⟩ vs (i + 1)).run P w1 := by
      simp only [storeCells, Sem.run_bind, addr_add, run_store P w _ v .plain (hv v (by simp)), hcell, hfz, Bool.false_eq_true, if_false, Result.andThen_ok]
      rfl
    refine ⟨w', c', by rw [hrun]; exact r1, ⟨by rw [r2.1]; simp [w1, World.setCell], Keeps.trans (b := w1) ⟨rfl, rfl, rfl⟩ r2.2⟩, fun b' hb' => ?_, r4, r5, fun j => ?_⟩
    · rw [r3 b' hb']
      simp only [w1, World.setCell, Array.getElem?_modify, if_neg (Ne.symm hb')]
    · rw [r6 j]
      simp only [List.length_cons]
      by_cases hj : j = o + i
      · subst hj
        rw [if_neg (by omega), if_pos (by omega)]
        simp [hlt]
      · by_cases hj2 : o + (i + 1) ≤ j ∧ j < o + (i + 1) + vs.length
        · rw [if_pos hj2, if_pos (by omega)]
          have : j - (o + i) = (j - (o + (i + 1))) + 1 := by omega
          rw [this, List.getElem?_cons_succ]
        · rw [if_neg hj2, if_neg (by omega)]
          simp [Array.getElem?_setIfInBounds_ne (Ne.symm hj)]

end
end Go.Proofs.Ytnjlpjdncejfcaa.Ev
