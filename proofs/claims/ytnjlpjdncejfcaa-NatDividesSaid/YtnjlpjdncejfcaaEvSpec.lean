/-
  What a function does, said with the evaluator's values; names changed. (A text of ours; no condition.)
-/
import Derived.Test.YtnjlpjdncejfcaaEvOrder
namespace Go.Proofs.Ytnjlpjdncejfcaa.Ev
set_option linter.unusedVariables false
set_option linter.unusedSimpArgs false

mutual
theorem Rel.avoid {ρ : Rho} {M M' : Nat → Prop} {w : World} (hM : ∀ b, M' b → M b) : ∀ (x : V) (v : Value), Rel ρ M w x v → Rel ρ M' w x v
  | .c _, _, h => by simpa only [Rel] using h
  | .poison, _, _ => by simp only [Rel]
  | .ptr _ _ _, _, h => by simpa only [Rel] using h
  | .sw _ _, _, h => by simpa only [Rel] using h
  | .sl _ _ _ _, _, h => by simpa only [Rel] using h
  | .il _ _ _, _, h => by
    simp only [Rel] at h ⊢
    obtain ⟨h0, h1, h2 | ⟨b, o, cap, h2, h3, h4, h5, h6⟩⟩ := h
    · exact ⟨h0, h1, .inl h2⟩
    · exact ⟨h0, h1, .inr ⟨b, o, cap, h2, h3, h4, fun hm => h5 (hM b hm), h6⟩⟩
  | .iv _ _, _, h => by
    simp only [Rel] at h ⊢
    obtain ⟨h0, h2 | ⟨b, o, cap, h2, h3, h4, h5, h7⟩⟩ := h
    · exact ⟨h0, .inl h2⟩
    · exact ⟨h0, .inr ⟨b, o, cap, h2, h3, h4, fun hm => h5 (hM b hm), h7⟩⟩
  | .ilp _ _ _ _, _, h => by
    simp only [Rel] at h ⊢
    obtain ⟨b, o, h2, h3, h4, h5, h6⟩ := h
    exact ⟨b, o, h2, h3, h4, fun hm => h5 (hM b hm), h6⟩
  | .ivp _ _ _ _, _, h => by
    simp only [Rel] at h ⊢
    obtain ⟨b, o, h2, h3, h4, h5, h7⟩ := h
    exact ⟨b, o, h2, h3, h4, fun hm => h5 (hM b hm), h7⟩
  | .agg cs, _, h => by
    simp only [Rel] at h ⊢
    obtain ⟨vs, h1, h2⟩ := h
    exact ⟨vs, h1, RelL.avoid hM cs _ h2⟩
  | .tup cs, _, h => by
    simp only [Rel] at h ⊢
    obtain ⟨vs, h1, h2⟩ := h
    exact ⟨vs, h1, RelL.avoid hM cs _ h2⟩
  | .fn _ a c, _, h => by
    simp only [Rel] at h ⊢
    obtain ⟨va, vc, h1, h2, h3⟩ := h
    exact ⟨va, vc, h1, RelL.avoid hM a _ h2, RelL.avoid hM c _ h3⟩
theorem RelL.avoid {ρ : Rho} {M M' : Nat → Prop} {w : World} (hM : ∀ b, M' b → M b) : ∀ (x : List V) (v : List Value), RelL ρ M w x v → RelL ρ M' w x v
  | [], [], _ => by simp only [RelL]
  | x :: xs, v :: vs, h => by
    simp only [RelL] at h ⊢
    exact ⟨Rel.avoid hM x v h.1, RelL.avoid hM xs vs h.2⟩
  | [], _ :: _, h => by simp only [RelL] at h
  | _ :: _, [], h => by simp only [RelL] at h
end

mutual
theorem Rel.ren {ρ ρ' : Rho} {M M' : Nat → Prop} {w : World} {m : Nat → Option Nat} (hm : ∀ i j p, m i = some j → ρ i = some p → ρ' j = some p) : ∀ (x : V) (v : Value), ((∀ b, M' b → M b) ∨ noImm x = true) → Rel ρ M w x v → Rel ρ' M' w (ren m x) v
  | .c _, _, _, h => by simpa only [Rel, Ev.ren] using h
  | .poison, _, _, _ => by simp only [Rel, Ev.ren]
  | .ptr id _ _, _, _, h => by
    simp only [Ev.ren]
    cases hid : m id with
    | none => simp only [Rel]
    | some j =>
      simp only [Rel] at h ⊢
      obtain ⟨b, n, C, h1, h2, h3⟩ := h
      exact ⟨b, n, C, hm _ _ _ hid h1, h2, h3⟩
  | .sw id _, _, _, h => by
    simp only [Ev.ren]
    cases hid : m id with
    | none => simp only [Rel]
    | some j =>
      simp only [Rel] at h ⊢
      obtain ⟨h0, ⟨b, n, C, cap, h1, h2⟩ | ⟨h1, h2⟩⟩ := h
      · exact ⟨h0, .inl ⟨b, n, C, cap, hm _ _ _ hid h1, h2⟩⟩
      · exact ⟨h0, .inr ⟨hm _ _ _ hid h1, h2⟩⟩
  | .sl id _ _ _, _, _, h => by
    simp only [Ev.ren]
    cases hid : m id with
    | none => simp only [Rel]
    | some j =>
      simp only [Rel] at h ⊢
      obtain ⟨h0, ⟨b, n, C, cap, h1, h2⟩ | ⟨h1, h2⟩⟩ := h
      · exact ⟨h0, .inl ⟨b, n, C, cap, hm _ _ _ hid h1, h2⟩⟩
      · exact ⟨h0, .inr ⟨h1, h2⟩⟩
  | .il k s l, v, hM, h => by
    simp only [Ev.ren]
    rcases hM with hM | hM
    · have := Rel.avoid hM _ _ h
      simpa only [Rel] using this
    · simp [noImm] at hM
  | .iv s l, v, hM, h => by
    simp only [Ev.ren]
    rcases hM with hM | hM
    · have := Rel.avoid hM _ _ h
      simpa only [Rel] using this
    · simp [noImm] at hM
  | .ilp k l off ext, v, hM, h => by
    simp only [Ev.ren]
    rcases hM with hM | hM
    · have := Rel.avoid hM _ _ h
      simpa only [Rel] using this
    · simp [noImm] at hM
  | .ivp l i off ext, v, hM, h => by
    simp only [Ev.ren]
    rcases hM with hM | hM
    · have := Rel.avoid hM _ _ h
      simpa only [Rel] using this
    · simp [noImm] at hM
  | .agg cs, _, hM, h => by
    simp only [Rel, Ev.ren] at h ⊢
    obtain ⟨vs, h1, h2⟩ := h
    exact ⟨vs, h1, RelL.ren hm cs _ (by simpa only [noImm] using hM) h2⟩
  | .tup cs, _, hM, h => by
    simp only [Rel, Ev.ren] at h ⊢
    obtain ⟨vs, h1, h2⟩ := h
    exact ⟨vs, h1, RelL.ren hm cs _ (by simpa only [noImm] using hM) h2⟩
  | .fn _ a c, _, hM, h => by
    simp only [Rel, Ev.ren] at h ⊢
    obtain ⟨va, vc, h1, h2, h3⟩ := h
    exact ⟨va, vc, h1, RelL.ren hm a _ (hM.imp id (fun h => by simp only [noImm, Bool.and_eq_true] at h; exact h.1)) h2, RelL.ren hm c _ (hM.imp id (fun h => by simp only [noImm, Bool.and_eq_true] at h; exact h.2)) h3⟩
theorem RelL.ren {ρ ρ' : Rho} {M M' : Nat → Prop} {w : World} {m : Nat → Option Nat} (hm : ∀ i j p, m i = some j → ρ i = some p → ρ' j = some p) : ∀ (x : List V) (v : List Value), ((∀ b, M' b → M b) ∨ noImmL x = true) → RelL ρ M w x v → RelL ρ' M' w (renL m x) v
  | [], [], _, _ => by simp only [RelL, renL]
  | x :: xs, v :: vs, hM, h => by
    simp only [RelL, renL] at h ⊢
    exact ⟨Rel.ren hm x v (hM.imp id (fun h => by simp only [noImmL, Bool.and_eq_true] at h; exact h.1)) h.1, RelL.ren hm xs vs (hM.imp id (fun h => by simp only [noImmL, Bool.and_eq_true] at h; exact h.2)) h.2⟩
  | [], _ :: _, _, h => by simp only [RelL] at h
  | _ :: _, [], _, h => by simp only [RelL] at h
end

theorem renL_length (m : Nat → Option Nat) : ∀ l : List V, (renL m l).length = l.length
  | [] => rfl
  | _ :: r => by simp [renL, renL_length m r]

theorem BlkRel.ren {ρ ρ' : Rho} {M M' : Nat → Prop} {w : World} {m : Nat → Option Nat} (hm : ∀ i j p, m i = some j → ρ i = some p → ρ' j = some p) {p : Pl} {x : Blk} (hM : (∀ b, M' b → M b) ∨ noImmB x = true) (h : BlkRel ρ M w p x) : BlkRel ρ' M' w p (renB m x) := by
  cases x with
  | dead => trivial
  | ints k l => exact h
  | vals cs =>
    obtain ⟨h1, ⟨h2, h3, h4⟩ | ⟨b, c, h2, h3, h4, h5⟩⟩ := h
    · subst h3; exact ⟨h1, .inl ⟨h2, rfl, h4⟩⟩
    · exact ⟨by rw [renL_length]; exact h1, .inr ⟨b, c, h2, h3, h4, RelL.ren hm _ _ (by simpa only [noImmB] using hM) h5⟩⟩

theorem renB_live {m : Nat → Option Nat} {x : Blk} : (renB m x).live ↔ x.live := by cases x <;> simp [renB, Blk.live]

/-- What a function does: arguments and blocks in, value and blocks out; the world's other cells stand as before. -/
def FnPost (F : Nat → Prop) (ρ : Rho) (bs : List Blk) (w : World) (v : V) (bs' : List Blk) (v' : Value) (w' : World) : Prop :=
  ∃ ρ', (∀ id, id < bs.length → ρ' id = ρ id) ∧ (∀ id, bs'.length ≤ id → ρ' id = none) ∧ HeapRel F ρ' (blkAt bs') w' ∧ Rel ρ' (av F (liveM ρ' (blkAt bs'))) w' v v' ∧ Ext (liveM ρ (blkAt bs)) w (liveM ρ' (blkAt bs')) w'

def Callable (P : Program) (f : Nat) : Prop := ∃ fn, P.funcs[f]? = some fn ∧ fn.body.isNone = false ∧ (fn.name == "runtime.NumGoroutine") = false

structure FnSpec (P : Program) (f : Nat) (args : List V) (bs : List Blk) (v : V) (bs' : List Blk) : Prop where
  callable : Callable P f
  calls : ∀ F ρ w args', HeapRel F ρ (blkAt bs) w → (∀ id, bs.length ≤ id → ρ id = none) → RelL ρ (av F (liveM ρ (blkAt bs))) w args args' →
    Calls P f args'.toArray w fun e w' => ∃ v', e = .returned v' ∧ FnPost F ρ bs w v bs' v' w'

def TabOK (P : Program) (tab : Nat → Option Entry) : Prop := ∀ f e, tab f = some e → ∀ args bs a enc, e.dec args bs = some (some a, enc) → FnSpec P f args bs (enc a).pick.1 (enc a).pick.2

/- Lists of blocks -/
theorem blkAt_getD : ∀ (bs : List Blk) (j : Nat), blkAt bs j = bs.getD j .dead
  | [], _ => by simp [blkAt]
  | _ :: _, 0 => by simp [blkAt]
  | b :: r, j + 1 => by simp [blkAt, blkAt_getD r j]

theorem dropB_eq : ∀ (bs : List Blk) (n : Nat), dropB bs n = bs.drop n
  | _, 0 => by simp [dropB]
  | [], _ + 1 => by simp [dropB]
  | _ :: r, n + 1 => by simp [dropB, dropB_eq r n]

theorem blkAt_map {m : Nat → Option Nat} (bs : List Blk) (j : Nat) : blkAt (bs.map (renB m)) j = renB m (blkAt bs j) := by
  rw [blkAt_getD, blkAt_getD]
  simp only [List.getD_eq_getElem?_getD, List.getElem?_map]
  cases bs[j]? <;> rfl

theorem updW_newL {h : Nat → Blk} {nid : Nat} {bs : List Blk} {id : Nat} (h1 : nid ≤ id) (h2 : id < nid + bs.length) : updW h (newL nid bs) id = blkAt bs (id - nid) := by
  induction bs generalizing h nid with
  | nil => simp at h2; omega
  | cons b r ih =>
    simp only [newL, updW]
    by_cases he : id = nid
    · subst he
      rw [updW_other (fun hm => by rw [newL_fst] at hm; simp at hm; omega), if_pos rfl]
      simp [blkAt]
    · rw [ih (by omega) (by simp at h2; omega)]
      have : id - nid = (id - (nid + 1)) + 1 := by omega
      rw [this]; rfl

theorem newL_not {nid : Nat} {bs : List Blk} {id : Nat} (h : ¬ (nid ≤ id ∧ id < nid + bs.length)) : id ∉ (newL nid bs).map (·.1) := by
  rw [newL_fst]; simp; intro x hx; omega

theorem zipW_fst : ∀ (σ : List Nat) (bs : List Blk) (i : Nat), i ∈ (zipW σ bs).map (·.1) → i ∈ σ
  | [], _, i, h => by simp [zipW] at h
  | _ :: _, [], i, h => by simp [zipW] at h
  | j :: r, b :: s, i, h => by
    simp only [zipW, List.map_cons, List.mem_cons] at h ⊢
    exact h.imp id (zipW_fst r s i)

theorem nodup_spec : ∀ (σ : List Nat), nodup σ = true → σ.Nodup
  | [], _ => List.nodup_nil
  | i :: r, h => by
    simp only [nodup, Bool.and_eq_true] at h
    exact List.nodup_cons.mpr ⟨not_any_beq.mp h.1, nodup_spec r h.2⟩

theorem updW_zipW : ∀ (σ : List Nat) (bs : List Blk) (h : Nat → Blk) (j i : Nat), σ.Nodup → σ.length ≤ bs.length → σ[j]? = some i → updW h (zipW σ bs) i = blkAt bs j
  | [], _, _, _, _, _, _, hi => by simp at hi
  | x :: r, [], _, _, _, _, hl, _ => by simp at hl
  | x :: r, b :: s, h, 0, i, hn, hl, hi => by
    simp at hi; subst hi
    simp only [zipW, updW]
    rw [updW_other (fun hm => (List.nodup_cons.mp hn).1 (zipW_fst _ _ _ hm)), if_pos rfl]
    rfl
  | x :: r, b :: s, h, j + 1, i, hn, hl, hi => by
    simp only [zipW, updW]
    rw [updW_zipW r s _ j i (List.nodup_cons.mp hn).2 (by simpa using hl) (by simpa using hi)]
    rfl

theorem updW_dead : ∀ (τ : List Nat) (h : Nat → Blk) (i : Nat), i ∈ τ → updW h (τ.map fun i => (i, Blk.dead)) i = .dead
  | x :: r, h, i, hi => by
    simp only [List.map_cons, updW]
    by_cases hr : i ∈ r
    · exact updW_dead r _ i hr
    · rw [updW_other (by simpa [Function.comp_def] using hr)]
      rcases List.mem_cons.mp hi with rfl | hi
      · rw [if_pos rfl]
      · exact absurd hi hr

theorem place_spec : ∀ (σ : List Nat) (i n j : Nat), place i σ n = some j → n ≤ j ∧ σ[j - n]? = some i
  | [], i, n, j, h => by simp [place] at h
  | x :: r, i, n, j, h => by
    simp only [place] at h
    cases hb : Nat.beq x i <;> rw [hb] at h <;> simp only [cond_true, cond_false] at h
    · obtain ⟨h1, h2⟩ := place_spec r i (n + 1) j h
      refine ⟨by omega, ?_⟩
      have : j - n = (j - (n + 1)) + 1 := by omega
      rw [this]; simpa using h2
    · simp only [Option.some.injEq] at h
      subst h
      have := beq_eq hb
      subst this
      simp

theorem outName_lt {σ : List Nat} {nid j i : Nat} (h : σ[j]? = some i) : outName σ nid j = some i := by unfold outName; rw [h]
theorem outName_ge {σ : List Nat} {nid j : Nat} (h : σ.length ≤ j) : outName σ nid j = some (nid + (j - σ.length)) := by unfold outName; rw [List.getElem?_eq_none h]

section
variable {P : Program} {F : Nat → Prop} {ρ : Rho} {h : Nat → Blk} {w : World} {nid : Nat}

mutual
/-- An argument that is only read, handed on as what it holds. -/
theorem immV_ok (hh : HeapRel F ρ h w) {Ml : Nat → Prop} (hM : ∀ b, Ml b → av F (liveM ρ h) b) : ∀ (v : V) (u : Value), (∀ id ∈ (immV h v).2, ∀ b n C, ρ id = some ⟨some b, n, C⟩ → (h id).live → ¬ Ml b) → Rel ρ (av F (liveM ρ h)) w v u → Rel ρ Ml w (immV h v).1 u
  | .sw id s, u, hτ, hr => by
    unfold immV at hτ ⊢
    split at hτ
    · rename_i k l hid
      have hl : (h id).live := by rw [hid]; trivial
      obtain ⟨h0, ⟨b, n, C, cap, c, h1, h2, h3, h4, h5, ho, hsz, hold⟩ | ⟨h1, h2, hk⟩⟩ := sw_cells hh hr hl
      · rw [hid] at hold
        obtain ⟨e1, e2, e3⟩ := hold
        simp only [Rel]
        refine ⟨h0, by rw [e1]; exact h2, .inr ⟨b, 0, cap, by rw [e1]; exact h5, by rw [e1]; exact h3, ho.lt, hτ id (by simp) b n C h1 hl, fun j hj => ?_⟩⟩
        rw [Nat.zero_add, ho.cell]
        exact e3 j hj
      · rw [hid] at hk
        rcases hk with ⟨k2, hk⟩ | hk <;> cases hk
        simp only [Rel]
        exact ⟨h0, by simp, .inl ⟨trivial, none, h2⟩⟩
    · exact Rel.avoid hM _ _ hr
  | .sl id s off len, u, hτ, hr => by
    unfold immV at hτ ⊢
    split at hτ
    · rename_i k l hid
      have hl : (h id).live := by rw [hid]; trivial
      simp only [Rel] at hr ⊢
      obtain ⟨h0, ⟨b, n, C, cap, h1, h2, h3, h4, h5⟩ | ⟨h1, a, h2⟩⟩ := hr
      · obtain ⟨c, ho, hsz, hold⟩ := hh.own hl h1
        rw [hid] at hold
        obtain ⟨e1, e2, e3⟩ := hold
        have hlen : ((l.drop off).take (mulw s len)).length = len * s := by rw [mulw_eq]; simp; omega
        rw [hlen]
        refine ⟨h0, Nat.mul_mod_left _ _, .inr ⟨b, off, cap, by rw [Nat.mul_div_cancel _ h0]; exact h5, by rw [Nat.mul_div_cancel _ h0]; exact h3, ho.lt, hτ id (by simp) b n C h1 hl, fun j hj => ?_⟩⟩
        rw [ho.cell, e3 _ (by omega)]
        congr 2
        simp only [List.getD_eq_getElem?_getD]
        rw [List.getElem?_take_of_lt (by rw [mulw_eq]; omega), List.getElem?_drop]
      · subst h1
        have : (l.drop off).take (mulw s 0) = [] := by rw [mulw_eq]; simp
        rw [this]
        exact ⟨h0, by simp, .inl ⟨rfl, a, h2⟩⟩
    · exact Rel.avoid hM _ _ hr
  | .agg cs, u, hτ, hr => by
    unfold immV at hτ ⊢
    simp only [Rel] at hr ⊢
    obtain ⟨vs, h1, h2⟩ := hr
    exact ⟨vs, h1, immL_ok hh hM cs _ hτ h2⟩
  | .c _, u, _, hr => by simp only [immV]; exact Rel.avoid hM _ _ hr
  | .poison, u, _, hr => by simp only [immV]; exact Rel.avoid hM _ _ hr
  | .ptr _ _ _, u, _, hr => by simp only [immV]; exact Rel.avoid hM _ _ hr
  | .il _ _ _, u, _, hr => by simp only [immV]; exact Rel.avoid hM _ _ hr
  | .iv _ _, u, _, hr => by simp only [immV]; exact Rel.avoid hM _ _ hr
  | .ilp _ _ _ _, u, _, hr => by simp only [immV]; exact Rel.avoid hM _ _ hr
  | .ivp _ _ _ _, u, _, hr => by simp only [immV]; exact Rel.avoid hM _ _ hr
  | .tup _, u, _, hr => by simp only [immV]; exact Rel.avoid hM _ _ hr
  | .fn _ _ _, u, _, hr => by simp only [immV]; exact Rel.avoid hM _ _ hr
theorem immL_ok (hh : HeapRel F ρ h w) {Ml : Nat → Prop} (hM : ∀ b, Ml b → av F (liveM ρ h) b) : ∀ (xs : List V) (us : List Value), (∀ id ∈ (immL h xs).2, ∀ b n C, ρ id = some ⟨some b, n, C⟩ → (h id).live → ¬ Ml b) → RelL ρ (av F (liveM ρ h)) w xs us → RelL ρ Ml w (immL h xs).1 us
  | [], [], _, _ => by simp only [immL, RelL]
  | x :: xs, u :: us, hτ, hr => by
    unfold immL at hτ ⊢
    simp only [RelL] at hr ⊢
    exact ⟨immV_ok hh hM x u (fun id hid => hτ id (List.mem_append_left _ hid)) hr.1, immL_ok hh hM xs us (fun id hid => hτ id (List.mem_append_right _ hid)) hr.2⟩
  | [], _ :: _, _, hr => by simp only [RelL] at hr
  | _ :: _, [], _, hr => by simp only [RelL] at hr
end

theorem immArgs_ok (hh : HeapRel F ρ h w) {Ml : Nat → Prop} (hM : ∀ b, Ml b → av F (liveM ρ h) b) : ∀ (bs : List Bool) (xs : List V) (us : List Value), (∀ id ∈ (immArgs h bs xs).2, ∀ b n C, ρ id = some ⟨some b, n, C⟩ → (h id).live → ¬ Ml b) → RelL ρ (av F (liveM ρ h)) w xs us → RelL ρ Ml w (immArgs h bs xs).1 us
  | [], xs, us, _, hr => by simp only [immArgs]; exact RelL.avoid hM _ _ hr
  | true :: bs, [], us, _, hr => by simp only [immArgs]; exact RelL.avoid hM _ _ hr
  | false :: bs, [], us, _, hr => by simp only [immArgs]; exact RelL.avoid hM _ _ hr
  | _ :: _, _ :: _, [], _, hr => by simp only [RelL] at hr
  | true :: bs, x :: xs, u :: us, hτ, hr => by
    unfold immArgs at hτ ⊢
    simp only [RelL] at hr ⊢
    exact ⟨immV_ok hh hM x u (fun id hid => hτ id (List.mem_append_left _ hid)) hr.1, immArgs_ok hh hM bs xs us (fun id hid => hτ id (List.mem_append_right _ hid)) hr.2⟩
  | false :: bs, x :: xs, u :: us, hτ, hr => by
    unfold immArgs at hτ ⊢
    simp only [RelL] at hr ⊢
    exact ⟨Rel.avoid hM _ _ hr.1, immArgs_ok hh hM bs xs us hτ hr.2⟩
end
end Go.Proofs.Ytnjlpjdncejfcaa.Ev
