/-
  The evaluator's forms of states (at loops, at returns) are sound. (A text of ours; no condition.)
-/
import Derived.Test.YtnjlpjdncejfcaaEvStepOK
namespace Go.Proofs.Ytnjlpjdncejfcaa.Ev
set_option linter.unusedVariables false
set_option linter.unusedSimpArgs false

mutual
theorem Rel.agree {ρ ρ' : Rho} {M : Nat → Prop} {w : World} : ∀ (x : V) (v : Value), (∀ i ∈ refs x, ∀ p, ρ i = some p → ρ' i = some p) → Rel ρ M w x v → Rel ρ' M w x v
  | .c _, _, _, h => by simpa only [Rel] using h
  | .poison, _, _, _ => by simp only [Rel]
  | .ptr id _ _, _, hm, h => by
    simp only [Rel] at h ⊢
    obtain ⟨b, n, C, h1, h2, h3⟩ := h
    exact ⟨b, n, C, hm id (by simp [refs]) _ h1, h2, h3⟩
  | .sw id _, _, hm, h => by
    simp only [Rel] at h ⊢
    obtain ⟨h0, ⟨b, n, C, cap, h1, h2⟩ | ⟨h1, h2⟩⟩ := h
    · exact ⟨h0, .inl ⟨b, n, C, cap, hm id (by simp [refs]) _ h1, h2⟩⟩
    · exact ⟨h0, .inr ⟨hm id (by simp [refs]) _ h1, h2⟩⟩
  | .sl id _ _ _, _, hm, h => by
    simp only [Rel] at h ⊢
    obtain ⟨h0, ⟨b, n, C, cap, h1, h2⟩ | ⟨h1, h2⟩⟩ := h
    · exact ⟨h0, .inl ⟨b, n, C, cap, hm id (by simp [refs]) _ h1, h2⟩⟩
    · exact ⟨h0, .inr ⟨h1, h2⟩⟩
  | .il _ _ _, _, _, h => by simpa only [Rel] using h
  | .iv _ _, _, _, h => by simpa only [Rel] using h
  | .ilp _ _ _ _, _, _, h => by simpa only [Rel] using h
  | .ivp _ _ _ _, _, _, h => by simpa only [Rel] using h
  | .agg cs, _, hm, h => by
    simp only [Rel] at h ⊢
    obtain ⟨vs, h1, h2⟩ := h
    exact ⟨vs, h1, RelL.agree cs _ (fun i hi => hm i (by simpa only [refs] using hi)) h2⟩
  | .tup cs, _, hm, h => by
    simp only [Rel] at h ⊢
    obtain ⟨vs, h1, h2⟩ := h
    exact ⟨vs, h1, RelL.agree cs _ (fun i hi => hm i (by simpa only [refs] using hi)) h2⟩
  | .fn _ a c, _, hm, h => by
    simp only [Rel] at h ⊢
    obtain ⟨va, vc, h1, h2, h3⟩ := h
    exact ⟨va, vc, h1, RelL.agree a _ (fun i hi => hm i (by simp only [refs, List.mem_append]; exact .inl hi)) h2, RelL.agree c _ (fun i hi => hm i (by simp only [refs, List.mem_append]; exact .inr hi)) h3⟩
theorem RelL.agree {ρ ρ' : Rho} {M : Nat → Prop} {w : World} : ∀ (x : List V) (v : List Value), (∀ i ∈ refsL x, ∀ p, ρ i = some p → ρ' i = some p) → RelL ρ M w x v → RelL ρ' M w x v
  | [], [], _, _ => by simp only [RelL]
  | x :: xs, v :: vs, hm, h => by
    simp only [RelL] at h ⊢
    exact ⟨Rel.agree x v (fun i hi => hm i (by simp only [refsL, List.mem_append]; exact .inl hi)) h.1, RelL.agree xs vs (fun i hi => hm i (by simp only [refsL, List.mem_append]; exact .inr hi)) h.2⟩
  | [], _ :: _, _, h => by simp only [RelL] at h
  | _ :: _, [], _, h => by simp only [RelL] at h
end

theorem BlkRel.agree {ρ ρ' : Rho} {M : Nat → Prop} {w : World} {p : Pl} {x : Blk} (hm : ∀ i ∈ refsB x, ∀ p, ρ i = some p → ρ' i = some p) (h : BlkRel ρ M w p x) : BlkRel ρ' M w p x := by
  cases x with
  | dead => trivial
  | ints k l => exact h
  | vals cs =>
    obtain ⟨h1, h2 | ⟨b, c, h2, h3, h4, h5⟩⟩ := h
    · exact ⟨h1, .inl h2⟩
    · exact ⟨h1, .inr ⟨b, c, h2, h3, h4, RelL.agree _ _ (fun i hi => hm i hi) h5⟩⟩

theorem BlkRel.avoid {ρ : Rho} {M M' : Nat → Prop} {w : World} (hM : ∀ b, M' b → M b) {p : Pl} {x : Blk} (h : BlkRel ρ M w p x) : BlkRel ρ M' w p x := by
  cases x with
  | dead => trivial
  | ints k l => exact h
  | vals cs =>
    obtain ⟨h1, h2 | ⟨b, c, h2, h3, h4, h5⟩⟩ := h
    · exact ⟨h1, .inl h2⟩
    · exact ⟨h1, .inr ⟨b, c, h2, h3, h4, RelL.avoid hM _ _ h5⟩⟩

theorem isEmpty_refs {l : List Nat} (h : l.isEmpty = true) : ∀ i, i ∉ l := by
  intro i hi
  cases l with
  | nil => cases hi
  | cons => cases h

/-- The new names follow the old ones. -/
structure Cons (ρ ρ' : Rho) (src : List (Option Nat)) : Prop where
  old : ∀ (j id : Nat), src[j]? = some (some id) → ρ' j = ρ id
  nil : ∀ j : Nat, src[j]? = some none → ρ' j = some ⟨none, 0, 0⟩

structure AccOK (h : Nat → Blk) (a : Acc) : Prop where
  len : a.src.length = a.blks.length
  nodup : ∀ (i j id : Nat), a.src[i]? = some (some id) → a.src[j]? = some (some id) → i = j
  virt : ∀ j : Nat, a.src[j]? = some none → ∃ k, a.blks[j]? = some (.ints k [])
  live : ∀ (j id : Nat) (x : Blk), a.src[j]? = some (some id) → a.blks[j]? = some x → x.live → (h id).live

def BlksOK (h : Nat → Blk) (ρ ρ' : Rho) (M : Nat → Prop) (w : World) (a : Acc) : Prop :=
  ∀ (j id : Nat) (x : Blk) (p : Pl), a.src[j]? = some (some id) → a.blks[j]? = some x → ρ id = some p → BlkRel ρ M w p (h id) → BlkRel ρ' M w p x

theorem findSrc_spec {id : Nat} : ∀ (src : List (Option Nat)) (n j : Nat), findSrc id src n = some j → n ≤ j ∧ src[j - n]? = some (some id)
  | [], n, j, h => by simp [findSrc] at h
  | some x :: r, n, j, h => by
    simp only [findSrc] at h
    cases hb : Nat.beq x id <;> rw [hb] at h <;> simp only [cond_true, cond_false] at h
    · obtain ⟨h1, h2⟩ := findSrc_spec r (n + 1) j h
      have : j - n = (j - (n + 1)) + 1 := by omega
      exact ⟨by omega, by rw [this]; simpa using h2⟩
    · simp only [Option.some.injEq] at h
      subst h
      have := beq_eq hb
      subst this
      simp
  | none :: r, n, j, h => by
    simp only [findSrc] at h
    obtain ⟨h1, h2⟩ := findSrc_spec r (n + 1) j h
    have : j - n = (j - (n + 1)) + 1 := by omega
    exact ⟨by omega, by rw [this]; simpa using h2⟩

theorem findSrc_none {id : Nat} : ∀ (src : List (Option Nat)) (n : Nat), findSrc id src n = none → ∀ j : Nat, src[j]? ≠ some (some id)
  | [], n, _, j => by simp
  | some x :: r, n, h, j => by
    simp only [findSrc] at h
    cases hb : Nat.beq x id <;> rw [hb] at h <;> simp only [cond_true, cond_false] at h
    · cases j with
      | zero => intro e; simp at e; subst e; simp at hb
      | succ j => simpa using findSrc_none r _ h j
    · cases h
  | none :: r, n, h, j => by
    simp only [findSrc] at h
    cases j with
    | zero => simp
    | succ j => simpa using findSrc_none r _ h j

theorem AccOK.push {h : Nat → Blk} {a : Acc} (ha : AccOK h a) {id : Nat} {x : Blk} (hf : findSrc id a.src 0 = none) (hx : x.live → (h id).live) : AccOK h ⟨a.src ++ [some id], a.blks ++ [x]⟩ := by
  have hno := findSrc_none _ _ hf
  refine ⟨by simp [ha.len], ?_, ?_, ?_⟩
  · intro i j id' hi hj
    dsimp only at hi hj
    rw [List.getElem?_append] at hi hj
    split at hi <;> split at hj
    · exact ha.nodup i j id' hi hj
    · rw [List.getElem?_singleton] at hj
      split at hj
      · simp only [Option.some.injEq] at hj; subst hj; exact absurd hi (hno i)
      · cases hj
    · rw [List.getElem?_singleton] at hi
      split at hi
      · simp only [Option.some.injEq] at hi; subst hi; exact absurd hj (hno j)
      · cases hi
    · rw [List.getElem?_singleton] at hi hj
      split at hi <;> split at hj <;> first | omega | (cases hi; done) | (cases hj; done)
  · intro j hj
    dsimp only at hj ⊢
    rw [List.getElem?_append] at hj
    split at hj
    · rename_i hlt
      obtain ⟨k, hk⟩ := ha.virt j hj
      exact ⟨k, by rw [List.getElem?_append_left (by rw [← ha.len]; exact hlt)]; exact hk⟩
    · rw [List.getElem?_singleton] at hj
      split at hj <;> simp at hj
  · intro j id' y hj hy hl
    dsimp only at hj hy
    rw [List.getElem?_append] at hj hy
    rw [← ha.len] at hy
    split at hj
    · rename_i hlt
      rw [if_pos hlt] at hy
      exact ha.live j id' y hj hy hl
    · rename_i hge
      rw [if_neg hge] at hy
      rw [List.getElem?_singleton] at hj hy
      split at hj
      · rename_i h0
        rw [if_pos h0] at hy
        simp only [Option.some.injEq] at hj hy
        subst hj; subst hy
        exact hx hl
      · cases hj

theorem BlksOK.push {h : Nat → Blk} {ρ ρ' : Rho} {M : Nat → Prop} {w : World} {a : Acc} (ha : AccOK h a) (hb : BlksOK h ρ ρ' M w a) {id : Nat} {x : Blk} (hx : ∀ p, BlkRel ρ M w p (h id) → BlkRel ρ' M w p x) : BlksOK h ρ ρ' M w ⟨a.src ++ [some id], a.blks ++ [x]⟩ := by
  intro j id' y p hj hy hp hr
  dsimp only at hj hy
  rw [List.getElem?_append] at hj hy
  rw [← ha.len] at hy
  split at hj
  · rename_i hlt
    rw [if_pos hlt] at hy
    exact hb j id' y p hj hy hp hr
  · rename_i hge
    rw [if_neg hge] at hy
    rw [List.getElem?_singleton] at hj hy
    split at hj
    · rename_i h0
      rw [if_pos h0] at hy
      simp only [Option.some.injEq] at hj hy
      subst hj; subst hy
      exact hx p hr
    · cases hj

theorem Cons.pre {ρ ρ' : Rho} {src more : List (Option Nat)} (hc : Cons ρ ρ' (src ++ more)) : Cons ρ ρ' src := by
  refine ⟨fun j id hj => hc.old j id ?_, fun j hj => hc.nil j ?_⟩ <;>
  · have : j < src.length := (List.getElem?_eq_some_iff.mp hj).1
    rw [List.getElem?_append_left this]; exact hj

def HB (h : Nat → Blk) (ρ : Rho) (M : Nat → Prop) (w : World) : Prop := ∀ id p, (h id).live → ρ id = some p → BlkRel ρ M w p (h id)

/-- What a shape does. -/
def ShapeOK (h : Nat → Blk) (a a' : Acc) (Rn : Rho → Rho → (Nat → Prop) → World → Prop) : Prop :=
  (∃ more, a'.src = a.src ++ more) ∧ (AccOK h a → AccOK h a' ∧ ∀ ρ ρ' M w, HB h ρ M w → Cons ρ ρ' a'.src → BlksOK h ρ ρ' M w a → BlksOK h ρ ρ' M w a' ∧ Rn ρ ρ' M w)

def RnV (v v' : V) (ρ ρ' : Rho) (M : Nat → Prop) (w : World) : Prop := ∀ u, Rel ρ M w v u → Rel ρ' M w v' u
def RnL (v v' : List V) (ρ ρ' : Rho) (M : Nat → Prop) (w : World) : Prop := ∀ u, RelL ρ M w v u → RelL ρ' M w v' u

theorem ShapeOK.same {h : Nat → Blk} {a : Acc} {Rn : Rho → Rho → (Nat → Prop) → World → Prop} (hr : ∀ ρ ρ' M w, Cons ρ ρ' a.src → Rn ρ ρ' M w) : ShapeOK h a a Rn :=
  ⟨⟨[], by simp⟩, fun ha => ⟨ha, fun ρ ρ' M w _ hc hb => ⟨hb, hr ρ ρ' M w hc⟩⟩⟩

theorem ShapeOK.new {h : Nat → Blk} {a : Acc} {id : Nat} {x : Blk} {Rn : Rho → Rho → (Nat → Prop) → World → Prop} (hf : findSrc id a.src 0 = none) (hx : x.live → (h id).live) (hb : ∀ ρ ρ' M w p, BlkRel ρ M w p (h id) → BlkRel ρ' M w p x)
    (hr : ∀ (ρ ρ' : Rho) M w, ρ' a.src.length = ρ id → Rn ρ ρ' M w) : ShapeOK h a ⟨a.src ++ [some id], a.blks ++ [x]⟩ Rn :=
  ⟨⟨[some id], rfl⟩, fun ha => ⟨ha.push hf hx, fun ρ ρ' M w _ hc hk => ⟨hk.push ha (hb ρ ρ' M w), hr ρ ρ' M w (hc.old a.src.length id (by simp))⟩⟩⟩

theorem ShapeOK.sameq {h : Nat → Blk} {a : Acc} {Rn : Rho → Rho → (Nat → Prop) → World → Prop} (hr : ∀ ρ ρ' M w, HB h ρ M w → Cons ρ ρ' a.src → Rn ρ ρ' M w) : ShapeOK h a a Rn :=
  ⟨⟨[], by simp⟩, fun ha => ⟨ha, fun ρ ρ' M w hq hc hb => ⟨hb, hr ρ ρ' M w hq hc⟩⟩⟩

theorem ShapeOK.newq {h : Nat → Blk} {a : Acc} {id : Nat} {x : Blk} {Rn : Rho → Rho → (Nat → Prop) → World → Prop} (hf : findSrc id a.src 0 = none) (hx : x.live → (h id).live) (hb : ∀ ρ ρ' M w p, BlkRel ρ M w p (h id) → BlkRel ρ' M w p x)
    (hr : ∀ (ρ ρ' : Rho) M w, HB h ρ M w → ρ' a.src.length = ρ id → Rn ρ ρ' M w) : ShapeOK h a ⟨a.src ++ [some id], a.blks ++ [x]⟩ Rn :=
  ⟨⟨[some id], rfl⟩, fun ha => ⟨ha.push hf hx, fun ρ ρ' M w hq hc hk => ⟨hk.push ha (hb ρ ρ' M w), hr ρ ρ' M w hq (hc.old a.src.length id (by simp))⟩⟩⟩

/-- A whole row taken for a part of one. -/
theorem sw_part {h : Nat → Blk} {ρ ρ' : Rho} {M : Nat → Prop} {w : World} {id j s : Nat} {k : IntKind} {l : List Int} (hid : h id = .ints k l) (hq : HB h ρ M w) (he : ρ' j = ρ id) {u : Value} (hr : Rel ρ M w (.sw id s) u) : Rel ρ' M w (.sl j s 0 (cnt s l.length)) u := by
  have hl : ∀ p, ρ id = some p → l.length = p.n := fun p hp => by
    have := hq id p (by rw [hid]; trivial) hp
    rw [hid] at this
    exact this.1
  simp only [Rel] at hr ⊢
  obtain ⟨h0, ⟨b, n, C, cap, h1, h2, h3, h4, h5⟩ | ⟨h1, h2⟩⟩ := hr
  · have e1 : l.length = n := hl _ h1
    have hn : n / s * s = n := Nat.div_mul_cancel (Nat.dvd_of_mod_eq_zero h2)
    refine ⟨h0, .inl ⟨b, n, C, cap, by rw [he]; exact h1, ?_, ?_, by omega, ?_⟩⟩
    · rw [cnt_eq, e1]; omega
    · rw [cnt_eq, e1]; exact h3
    · rw [cnt_eq, e1]; exact h5
  · have e1 : l.length = 0 := hl _ h1
    exact ⟨h0, .inr ⟨by rw [cnt_eq, e1]; simp, none, h2⟩⟩

theorem Rel.ptr_name {ρ ρ' : Rho} {M : Nat → Prop} {w : World} {id j off ext : Nat} (h : ρ' j = ρ id) {u : Value} (hr : Rel ρ M w (.ptr id off ext) u) : Rel ρ' M w (.ptr j off ext) u := by
  simp only [Rel] at hr ⊢; rw [h]; exact hr
theorem Rel.sw_name {ρ ρ' : Rho} {M : Nat → Prop} {w : World} {id j s : Nat} (h : ρ' j = ρ id) {u : Value} (hr : Rel ρ M w (.sw id s) u) : Rel ρ' M w (.sw j s) u := by
  simp only [Rel] at hr ⊢; rw [h]; exact hr
theorem Rel.sl_name {ρ ρ' : Rho} {M : Nat → Prop} {w : World} {id j s off len : Nat} (h : ρ' j = ρ id) {u : Value} (hr : Rel ρ M w (.sl id s off len) u) : Rel ρ' M w (.sl j s off len) u := by
  simp only [Rel] at hr ⊢; rw [h]; exact hr

theorem blk_ints {ρ ρ' : Rho} {M : Nat → Prop} {w : World} {p : Pl} {k : IntKind} {l : List Int} (h : BlkRel ρ M w p (.ints k l)) : BlkRel ρ' M w p (.ints k l) := h
theorem blk_flat {ρ ρ' : Rho} {M : Nat → Prop} {w : World} {p : Pl} {cs : List V} (hc : (refsL cs).isEmpty = true) (h : BlkRel ρ M w p (.vals cs)) : BlkRel ρ' M w p (.vals cs) :=
  h.agree (fun i hi => absurd hi (isEmpty_refs hc i))

theorem found {ρ ρ' : Rho} {src : List (Option Nat)} {id j : Nat} (hf : findSrc id src 0 = some j) (hc : Cons ρ ρ' src) : ρ' j = ρ id := hc.old j id (by have := (findSrc_spec src 0 j hf).2; simpa using this)

theorem setBlk_get : ∀ (H : List Blk) (i j : Nat) (x : Blk), i < H.length → (setBlk H i x)[j]? = if j = i then some x else H[j]?
  | [], _, _, _, h => by simp at h
  | b :: r, 0, 0, x, _ => by simp [setBlk]
  | b :: r, 0, j + 1, x, _ => by simp [setBlk]
  | b :: r, n + 1, 0, x, _ => by simp [setBlk]
  | b :: r, n + 1, j + 1, x, h => by simp [setBlk, setBlk_get r n j x (by simpa using h)]

mutual
theorem shape_ok {h : Nat → Blk} : ∀ (sh : Sh) (v : V) (a : Acc) (v' : V) (a' : Acc), shape h sh v a = some (v', a') → ShapeOK h a a' (RnV v v')
  | .any, v, a, v', a', hs => by
    unfold shape at hs
    cases hc : (refs v).isEmpty <;> rw [hc] at hs <;> simp only [cond_true, cond_false] at hs
    · split at hs
      · rename_i id off ext
        split at hs
        · rename_i j hf
          simp only [Option.some.injEq, Prod.mk.injEq] at hs
          obtain ⟨rfl, rfl⟩ := hs
          exact .same (fun ρ ρ' M w hc u hr => hr.ptr_name (found hf hc))
        · rename_i hf
          split at hs
          · rename_i k l hid
            simp only [Option.some.injEq, Prod.mk.injEq] at hs
            obtain ⟨rfl, rfl⟩ := hs
            exact .new hf (fun _ => by rw [hid]; trivial) (fun ρ ρ' M w p hb => by rw [hid] at hb; exact blk_ints hb) (fun ρ ρ' M w he u hr => hr.ptr_name he)
          · rename_i cs hid
            obtain ⟨h1, h2⟩ := cond_some hs
            simp only [Option.some.injEq, Prod.mk.injEq] at h2
            obtain ⟨rfl, rfl⟩ := h2
            exact .new hf (fun _ => by rw [hid]; trivial) (fun ρ ρ' M w p hb => by rw [hid] at hb; exact blk_flat h1 hb) (fun ρ ρ' M w he u hr => hr.ptr_name he)
          · cases hs
      · rename_i id s
        split at hs
        · rename_i j hf
          simp only [Option.some.injEq, Prod.mk.injEq] at hs
          obtain ⟨rfl, rfl⟩ := hs
          exact .same (fun ρ ρ' M w hc u hr => hr.sw_name (found hf hc))
        · rename_i hf
          split at hs
          · rename_i k l hid
            simp only [Option.some.injEq, Prod.mk.injEq] at hs
            obtain ⟨rfl, rfl⟩ := hs
            exact .new hf (fun _ => by rw [hid]; trivial) (fun ρ ρ' M w p hb => by rw [hid] at hb; exact blk_ints hb) (fun ρ ρ' M w he u hr => hr.sw_name he)
          · rename_i cs hid
            obtain ⟨h1, h2⟩ := cond_some hs
            simp only [Option.some.injEq, Prod.mk.injEq] at h2
            obtain ⟨rfl, rfl⟩ := h2
            exact .new hf (fun _ => by rw [hid]; trivial) (fun ρ ρ' M w p hb => by rw [hid] at hb; exact blk_flat h1 hb) (fun ρ ρ' M w he u hr => hr.sw_name he)
          · cases hs
      · rename_i id s off len
        split at hs
        · rename_i j hf
          simp only [Option.some.injEq, Prod.mk.injEq] at hs
          obtain ⟨rfl, rfl⟩ := hs
          exact .same (fun ρ ρ' M w hc u hr => hr.sl_name (found hf hc))
        · rename_i hf
          split at hs
          · rename_i k l hid
            simp only [Option.some.injEq, Prod.mk.injEq] at hs
            obtain ⟨rfl, rfl⟩ := hs
            exact .new hf (fun _ => by rw [hid]; trivial) (fun ρ ρ' M w p hb => by rw [hid] at hb; exact blk_ints hb) (fun ρ ρ' M w he u hr => hr.sl_name he)
          · rename_i cs hid
            obtain ⟨h1, h2⟩ := cond_some hs
            simp only [Option.some.injEq, Prod.mk.injEq] at h2
            obtain ⟨rfl, rfl⟩ := h2
            exact .new hf (fun _ => by rw [hid]; trivial) (fun ρ ρ' M w p hb => by rw [hid] at hb; exact blk_flat h1 hb) (fun ρ ρ' M w he u hr => hr.sl_name he)
          · cases hs
      · rename_i f id off ext
        split at hs
        · rename_i j hf
          simp only [Option.some.injEq, Prod.mk.injEq] at hs
          obtain ⟨rfl, rfl⟩ := hs
          refine .same (fun ρ ρ' M w hc u hr => ?_)
          simp only [Rel] at hr ⊢
          obtain ⟨va, vc, h1, h2, h3⟩ := hr
          refine ⟨va, vc, h1, ?_, ?_⟩
          · generalize va.toList = l at h2
            cases l with
            | nil => simp only [RelL] at h2
            | cons x l => cases l with
              | nil => simp only [RelL, Rel] at h2 ⊢; rw [found hf hc]; exact h2
              | cons => simp only [RelL] at h2; exact h2.2.elim
          · generalize vc.toList = l at h3
            cases l with
            | nil => simp only [RelL]
            | cons => simp only [RelL] at h3
        · cases hs
      · cases hs
    · simp only [Option.some.injEq, Prod.mk.injEq] at hs
      obtain ⟨rfl, rfl⟩ := hs
      exact .same (fun ρ ρ' M w _ u hr => hr.agree _ _ (fun i hi => absurd hi (isEmpty_refs hc i)))
  | .row k s, v, a, v', a', hs => by
    unfold shape at hs
    split at hs
    · obtain ⟨h0, hs⟩ := cond_some hs
      have h0 := blt_lt h0
      simp only [Option.some.injEq, Prod.mk.injEq] at hs
      obtain ⟨rfl, rfl⟩ := hs
      refine ⟨⟨[none], rfl⟩, fun ha => ⟨⟨by simp [ha.len], ?_, ?_, ?_⟩, fun ρ ρ' M w hq hc hb => ⟨?_, ?_⟩⟩⟩
      · intro i j id hi hj
        dsimp only at hi hj
        rw [List.getElem?_append] at hi hj
        split at hi <;> split at hj <;> first
          | exact ha.nodup i j id hi hj
          | (rw [List.getElem?_singleton] at hi; split at hi <;> simp at hi)
          | (rw [List.getElem?_singleton] at hj; split at hj <;> simp at hj)
      · intro j hj
        dsimp only at hj ⊢
        rw [List.getElem?_append] at hj
        split at hj
        · rename_i hlt
          obtain ⟨k, hk⟩ := ha.virt j hj
          exact ⟨k, by rw [List.getElem?_append_left (by rw [← ha.len]; exact hlt)]; exact hk⟩
        · rename_i hge
          rw [List.getElem?_singleton] at hj
          split at hj
          · refine ⟨k, ?_⟩
            rw [List.getElem?_append_right (by rw [← ha.len]; omega), ← ha.len]
            have : j - a.src.length = 0 := by omega
            rw [this]; rfl
          · cases hj
      · intro j id x hj hx hl
        dsimp only at hj hx
        rw [List.getElem?_append] at hj hx
        rw [← ha.len] at hx
        split at hj
        · rename_i hlt
          rw [if_pos hlt] at hx
          exact ha.live j id x hj hx hl
        · rw [List.getElem?_singleton] at hj; split at hj <;> simp at hj
      · intro j id x p hj hx hp hr
        dsimp only at hj hx
        rw [List.getElem?_append] at hj hx
        rw [← ha.len] at hx
        split at hj
        · rename_i hlt
          rw [if_pos hlt] at hx
          exact hb j id x p hj hx hp hr
        · rw [List.getElem?_singleton] at hj; split at hj <;> simp at hj
      · intro u hr
        simp only [Rel] at hr ⊢
        exact ⟨h0, .inr ⟨hc.nil a.src.length (by simp), hr⟩⟩
    · rename_i id s'
      obtain ⟨h0, h2⟩ := cond_some hs
      clear hs
      have hs := h2
      clear h2
      have h3 := beq_eq h0
      clear h0
      subst h3
      split at hs
      · rename_i j hf
        simp only [Option.some.injEq, Prod.mk.injEq] at hs
        obtain ⟨rfl, rfl⟩ := hs
        exact .same (fun ρ ρ' M w hc u hr => hr.sw_name (found hf hc))
      · rename_i hf
        split at hs
        · rename_i k' l hid
          obtain ⟨h1, hs⟩ := cond_some hs
          simp only [Option.some.injEq, Prod.mk.injEq] at hs
          obtain ⟨rfl, rfl⟩ := hs
          exact .new hf (fun _ => by rw [hid]; trivial) (fun ρ ρ' M w p hb => by rw [hid] at hb; exact blk_ints hb) (fun ρ ρ' M w he u hr => hr.sw_name he)
        · cases hs
    · cases hs
  | .part k s, v, a, v', a', hs => by
    unfold shape at hs
    split at hs
    · obtain ⟨h0, hs⟩ := cond_some hs
      have h0 := blt_lt h0
      simp only [Option.some.injEq, Prod.mk.injEq] at hs
      obtain ⟨rfl, rfl⟩ := hs
      refine ⟨⟨[none], rfl⟩, fun ha => ⟨⟨by simp [ha.len], ?_, ?_, ?_⟩, fun ρ ρ' M w hq hc hb => ⟨?_, ?_⟩⟩⟩
      · intro i j id hi hj
        dsimp only at hi hj
        rw [List.getElem?_append] at hi hj
        split at hi <;> split at hj <;> first
          | exact ha.nodup i j id hi hj
          | (rw [List.getElem?_singleton] at hi; split at hi <;> simp at hi)
          | (rw [List.getElem?_singleton] at hj; split at hj <;> simp at hj)
      · intro j hj
        dsimp only at hj ⊢
        rw [List.getElem?_append] at hj
        split at hj
        · rename_i hlt
          obtain ⟨k, hk⟩ := ha.virt j hj
          exact ⟨k, by rw [List.getElem?_append_left (by rw [← ha.len]; exact hlt)]; exact hk⟩
        · rename_i hge
          rw [List.getElem?_singleton] at hj
          split at hj
          · refine ⟨k, ?_⟩
            rw [List.getElem?_append_right (by rw [← ha.len]; omega), ← ha.len]
            have : j - a.src.length = 0 := by omega
            rw [this]; rfl
          · cases hj
      · intro j id x hj hx hl
        dsimp only at hj hx
        rw [List.getElem?_append] at hj hx
        rw [← ha.len] at hx
        split at hj
        · rename_i hlt
          rw [if_pos hlt] at hx
          exact ha.live j id x hj hx hl
        · rw [List.getElem?_singleton] at hj; split at hj <;> simp at hj
      · intro j id x p hj hx hp hr
        dsimp only at hj hx
        rw [List.getElem?_append] at hj hx
        rw [← ha.len] at hx
        split at hj
        · rename_i hlt
          rw [if_pos hlt] at hx
          exact hb j id x p hj hx hp hr
        · rw [List.getElem?_singleton] at hj; split at hj <;> simp at hj
      · intro u hr
        simp only [Rel] at hr ⊢
        exact ⟨h0, .inr ⟨trivial, none, hr⟩⟩
    · rename_i id s'
      obtain ⟨h0, h2⟩ := cond_some hs
      clear hs
      have hs := h2
      clear h2
      have h3 := beq_eq h0
      clear h0
      subst h3
      split at hs
      · rename_i k' l hid
        obtain ⟨h1, hs2⟩ := cond_some hs
        clear hs
        have hs := hs2
        clear hs2
        split at hs
        · rename_i j hf
          simp only [Option.some.injEq, Prod.mk.injEq] at hs
          obtain ⟨rfl, rfl⟩ := hs
          exact .sameq (fun ρ ρ' M w hq hc u hr => sw_part hid hq (found hf hc) hr)
        · rename_i hf
          simp only [Option.some.injEq, Prod.mk.injEq] at hs
          obtain ⟨rfl, rfl⟩ := hs
          exact .newq hf (fun _ => by rw [hid]; trivial) (fun ρ ρ' M w p hb => by rw [hid] at hb; exact blk_ints hb) (fun ρ ρ' M w hq he u hr => sw_part hid hq he hr)
      · cases hs
    · rename_i id s' off len
      obtain ⟨h0, h2⟩ := cond_some hs
      clear hs
      have hs := h2
      clear h2
      split at hs
      · rename_i k' l hid
        obtain ⟨h1, hs2⟩ := cond_some hs
        clear hs
        have hs := hs2
        clear hs2
        split at hs
        · rename_i j hf
          simp only [Option.some.injEq, Prod.mk.injEq] at hs
          obtain ⟨rfl, rfl⟩ := hs
          exact .same (fun ρ ρ' M w hc u hr => hr.sl_name (found hf hc))
        · rename_i hf
          simp only [Option.some.injEq, Prod.mk.injEq] at hs
          obtain ⟨rfl, rfl⟩ := hs
          exact .new hf (fun _ => by rw [hid]; trivial) (fun ρ ρ' M w p hb => by rw [hid] at hb; exact blk_ints hb) (fun ρ ρ' M w he u hr => hr.sl_name he)
      · cases hs
    · cases hs
  | .il k s, v, a, v', a', hs => by
    unfold shape at hs
    split at hs
    · obtain ⟨h0, hs⟩ := cond_some hs
      have h0 := blt_lt h0
      simp only [Option.some.injEq, Prod.mk.injEq] at hs
      obtain ⟨rfl, rfl⟩ := hs
      refine .same (fun ρ ρ' M w hc u hr => ?_)
      simp only [Rel] at hr ⊢
      exact ⟨h0, by simp, .inl ⟨trivial, none, hr⟩⟩
    · obtain ⟨h0, hs⟩ := cond_some hs
      simp only [Option.some.injEq, Prod.mk.injEq] at hs
      obtain ⟨rfl, rfl⟩ := hs
      exact .same (fun ρ ρ' M w hc u hr => by simpa only [Rel] using hr)
    · cases hs
  | .box ss, v, a, v', a', hs => by
    unfold shape at hs
    split at hs
    · rename_i id off ext
      split at hs
      · rename_i j hf
        simp only [Option.some.injEq, Prod.mk.injEq] at hs
        obtain ⟨rfl, rfl⟩ := hs
        exact .same (fun ρ ρ' M w hc u hr => hr.ptr_name (found hf hc))
      · rename_i hf
        split at hs
        · rename_i cs hid
          split at hs
          · rename_i cs' a1 hL
            simp only [Option.some.injEq, Prod.mk.injEq] at hs
            obtain ⟨rfl, rfl⟩ := hs
            obtain ⟨⟨more, hm⟩, hk⟩ := shapeL_ok ss cs _ cs' a1 hL
            refine ⟨⟨[some id] ++ more, by rw [hm]; simp⟩, fun ha => ?_⟩
            obtain ⟨k1, k2⟩ := hk (ha.push hf (fun hx => hx.elim))
            have hsrc : a1.src[a.src.length]? = some (some id) := by rw [hm]; simp
            have hlt : a.src.length < a1.blks.length := by rw [← k1.len, hm]; simp
            refine ⟨⟨by rw [setBlk_length]; exact k1.len, k1.nodup, ?_, ?_⟩, fun ρ ρ' M w hq hc hb => ?_⟩
            · intro j hj
              obtain ⟨k, hk⟩ := k1.virt j hj
              refine ⟨k, ?_⟩
              dsimp only at hj ⊢
              rw [setBlk_get _ _ _ _ hlt, if_neg (fun e => by subst e; rw [hsrc] at hj; cases hj)]
              exact hk
            · intro j id' x hj hx hl
              dsimp only at hj hx
              rw [setBlk_get _ _ _ _ hlt] at hx
              split at hx
              · rename_i e; subst e; rw [hsrc] at hj; simp only [Option.some.injEq] at hj; subst hj; rw [hid]; trivial
              · exact k1.live j id' x hj hx hl
            · obtain ⟨b1, b2⟩ := k2 ρ ρ' M w hq hc (hb.push ha (fun p _ => trivial))
              refine ⟨?_, fun u hr => hr.ptr_name (hc.old _ _ hsrc)⟩
              intro j id' x p hj hx hp hr
              dsimp only at hj hx
              rw [setBlk_get _ _ _ _ hlt] at hx
              split at hx
              · rename_i e
                subst e
                rw [hsrc] at hj
                simp only [Option.some.injEq] at hj hx
                subst hj; subst hx
                rw [hid] at hr
                obtain ⟨h1, ⟨h2, h3, h4⟩ | ⟨b, c, h2, h3, h4, h5⟩⟩ := hr
                · subst h3
                  have := b2 [] (by simp only [RelL])
                  cases cs' with
                  | nil => exact ⟨h1, .inl ⟨h2, rfl, h4⟩⟩
                  | cons => simp only [RelL] at this
                · have := b2 _ h5
                  exact ⟨by rw [← h1, this.length, h5.length], .inr ⟨b, c, h2, h3, h4, this⟩⟩
              · exact b1 j id' x p hj hx hp hr
          · cases hs
        · cases hs
    · cases hs
  | .recd ss, v, a, v', a', hs => by
    unfold shape at hs
    split at hs
    · rename_i cs
      split at hs
      · rename_i cs' a1 hL
        simp only [Option.some.injEq, Prod.mk.injEq] at hs
        obtain ⟨rfl, rfl⟩ := hs
        obtain ⟨h1, hk⟩ := shapeL_ok ss cs a cs' a1 hL
        refine ⟨h1, fun ha => ⟨(hk ha).1, fun ρ ρ' M w hq hc hb => ⟨((hk ha).2 ρ ρ' M w hq hc hb).1, fun u hr => ?_⟩⟩⟩
        simp only [Rel] at hr ⊢
        obtain ⟨vs, e, hr⟩ := hr
        exact ⟨vs, e, ((hk ha).2 ρ ρ' M w hq hc hb).2 _ hr⟩
      · cases hs
    · cases hs
  | .tup ss, v, a, v', a', hs => by
    unfold shape at hs
    split at hs
    · rename_i cs
      split at hs
      · rename_i cs' a1 hL
        simp only [Option.some.injEq, Prod.mk.injEq] at hs
        obtain ⟨rfl, rfl⟩ := hs
        obtain ⟨h1, hk⟩ := shapeL_ok ss cs a cs' a1 hL
        refine ⟨h1, fun ha => ⟨(hk ha).1, fun ρ ρ' M w hq hc hb => ⟨((hk ha).2 ρ ρ' M w hq hc hb).1, fun u hr => ?_⟩⟩⟩
        simp only [Rel] at hr ⊢
        obtain ⟨vs, e, hr⟩ := hr
        exact ⟨vs, e, ((hk ha).2 ρ ρ' M w hq hc hb).2 _ hr⟩
      · cases hs
    · cases hs
theorem shapeL_ok {h : Nat → Blk} : ∀ (ss : List Sh) (vs : List V) (a : Acc) (vs' : List V) (a' : Acc), shapeL h ss vs a = some (vs', a') → ShapeOK h a a' (RnL vs vs')
  | [], [], a, vs', a', hs => by
    simp only [shapeL, Option.some.injEq, Prod.mk.injEq] at hs
    obtain ⟨rfl, rfl⟩ := hs
    exact .same (fun ρ ρ' M w hc u hr => by cases u <;> simp_all [RelL])
  | s :: ss, v :: vs, a, vs', a', hs => by
    unfold shapeL at hs
    split at hs
    · rename_i v1 a1 h1
      split at hs
      · rename_i vs1 a2 h2
        simp only [Option.some.injEq, Prod.mk.injEq] at hs
        obtain ⟨rfl, rfl⟩ := hs
        obtain ⟨⟨m1, e1⟩, k1⟩ := shape_ok s v a v1 a1 h1
        obtain ⟨⟨m2, e2⟩, k2⟩ := shapeL_ok ss vs a1 vs1 a2 h2
        refine ⟨⟨m1 ++ m2, by rw [e2, e1, List.append_assoc]⟩, fun ha => ?_⟩
        obtain ⟨p1, p2⟩ := k1 ha
        obtain ⟨q1, q2⟩ := k2 p1
        refine ⟨q1, fun ρ ρ' M w hq hc hb => ?_⟩
        obtain ⟨r1, r2⟩ := p2 ρ ρ' M w hq (by rw [e2] at hc; exact hc.pre) hb
        obtain ⟨t1, t2⟩ := q2 ρ ρ' M w hq hc r1
        refine ⟨t1, fun u hr => ?_⟩
        cases u with
        | nil => simp only [RelL] at hr
        | cons u us =>
          simp only [RelL] at hr ⊢
          exact ⟨r2 u hr.1, t2 us hr.2⟩
      · cases hs
    · cases hs
  | [], _ :: _, a, vs', a', hs => by simp [shapeL] at hs
  | _ :: _, [], a, vs', a', hs => by simp [shapeL] at hs
end

end Go.Proofs.Ytnjlpjdncejfcaa.Ev
