/-
  The evaluator's operations, third part: those that leave the world alone, what they read of it. (A text of ours; no condition.)
-/
import Derived.Test.YtnjlpjdncejfcaaEvOps2
namespace Go.Proofs.Ytnjlpjdncejfcaa.Ev
set_option linter.unusedVariables false
set_option linter.unusedSimpArgs false

section
variable {P : Program} {F : Nat → Prop} {ρ : Rho} {M : Nat → Prop} {h : Nat → Blk} {w : World} {nid : Nat}

theorem pureV_out {x : V} {out : Out} (h : pureV x = some (true, out)) : out = { val := x } := by
  simp only [pureV, Option.some.injEq, Prod.mk.injEq, true_and] at h; exact h.symm
theorem pureIf_out {b : Bool} {x : V} {out : Out} (h : pureIf b x = some (true, out)) : b = true ∧ out = { val := x } := by
  simp only [pureIf, Option.some.injEq, Prod.mk.injEq] at h; exact ⟨h.1, h.2.symm⟩

theorem unV_ok {op : UnOp} {x : V} {vx : Value} {out : Out} (hb : unV op x = some (true, out)) (hx : Rel ρ M w x vx) :
    ∃ v, out = { val := .c v } ∧ (Op.unary op vx).run P w = .ok v w := by
  unfold unV at hb
  split at hb
  · have := hx.int; subst this; exact ⟨_, pureV_out hb, by simp [Op.unary, Op.intArith]⟩
  · have := hx.c; subst this; exact ⟨_, pureV_out hb, by simp [Op.unary]⟩
  · have := hx.int; subst this
    simp only [bitsOp] at hb
    exact ⟨_, pureV_out hb, by simp [Op.unary, Op.intBits]⟩
  · cases hb

theorem foldInts_ok {f : Int → Int → Int} {g : Value → Value → Sem Value} {k : IntKind} (hg : ∀ a b, g (.int k a) (.int k b) = pure (.int k (f a b))) : ∀ (xs : List V) (vs : List Value) (a n : Int),
    foldInts f k a xs = some n → RelL ρ M w xs vs → (vs.foldlM g (.int k a)).run P w = .ok (.int k n) w
  | [], [], a, n, h, _ => by simp [foldInts] at h; subst h; simp
  | [], _ :: _, _, _, _, h => by simp [RelL] at h
  | _ :: _, [], _, _, _, h => by simp [RelL] at h
  | x :: xs, v :: vs, a, n, h, hr => by
    simp only [RelL] at hr
    cases x with
    | c u =>
      cases u with
      | int k' b =>
        simp only [foldInts] at h
        cases hk : keq k k' with
        | false => simp [hk] at h
        | true =>
          have := keq_eq hk; subst this
          simp only [hk, cond_true] at h
          have := hr.1.int; subst this
          rw [List.foldlM_cons, hg]
          simp only [Sem.run_bind, Sem.run_pure, Result.andThen_ok]
          exact foldInts_ok hg xs vs _ n h hr.2
      | _ => simp [foldInts] at h
    | _ => simp [foldInts] at h

theorem minmax_ok {f : Int → Int → Int} {g : Value → Value → Sem Value} (hg : ∀ k a b, g (.int k a) (.int k b) = pure (.int k (f a b))) {xs : List V} {vs : List Value} {out : Out} (h : minmax f xs = some (true, out)) (hr : RelL ρ M w xs vs) :
    ∃ x r v, vs = x :: r ∧ out = { val := .c v } ∧ (r.foldlM g x).run P w = .ok v w := by
  unfold minmax at h
  split at h
  · rename_i k a r
    split at h
    · rename_i n hn
      cases vs with
      | nil => simp [RelL] at hr
      | cons v vs =>
        simp only [RelL] at hr
        have := hr.1.int; subst this
        exact ⟨_, _, _, rfl, pureV_out h, foldInts_ok (fun a b => hg k a b) r vs a n hn hr.2⟩
    · cases h
  · cases h

/-- Cells read one behind the other. -/
theorem run_loadCellsFrom {b o : Nat} : ∀ (n i : Nat) (acc : Array Value) (vs : List Value), vs.length = n → (∀ j, j < n → w.cell? ⟨b, o + (i + j), none⟩ = vs[j]?) →
    (loadCellsFrom ⟨b, o, none⟩ i n acc).run P w = .ok (acc ++ vs.toArray) w
  | 0, i, acc, vs, hl, _ => by
    have : vs = [] := List.length_eq_zero_iff.mp hl
    subst this
    simp [loadCellsFrom]
  | n + 1, i, acc, vs, hl, hc => by
    cases vs with
    | nil => simp at hl
    | cons v vs =>
      have h0 := hc 0 (by omega)
      simp only [Nat.add_zero, List.getElem?_cons_zero] at h0
      simp only [loadCellsFrom, Sem.run_bind, addr_add, run_load, h0, Result.andThen_ok]
      rw [run_loadCellsFrom n (i + 1) _ vs (by simpa using hl) (fun j hj => by
        have := hc (j + 1) (by omega)
        simpa [Nat.add_assoc, Nat.add_comm 1 j] using this)]
      simp

/-- A variable read. -/
theorem run_loadVar {t : Nat} {ti : TI} (ht : TyOK1 P t ti) (hs : 0 < ti.size) {b o : Nat} {vs : List Value} (hl : vs.length = ti.size) (hc : ∀ j, j < ti.size → w.cell? ⟨b, o + j, none⟩ = vs[j]?) (h1 : ti.isAgg = false → ti.size = 1) :
    (loadVar t ⟨b, o, none⟩).run P w = .ok (if ti.isAgg then .agg vs.toArray else vs.headD undef) w := by
  unfold loadVar
  simp only [Sem.run_bind, ht.isAgg, Result.andThen_ok]
  cases ha : ti.isAgg with
  | true =>
    have h2 := run_loadCellsFrom (P := P) (w := w) (b := b) (o := o) ti.size 0 #[] vs hl (fun j hj => by simpa using hc j hj)
    simp only [if_true, loadCells, Sem.run_bind, ht.sizeOf, Result.andThen_ok, h2, Sem.run_pure]
    simp
  | false =>
    have h0 := hc 0 hs
    cases vs with
    | nil => simp at hl; omega
    | cons v vs => simp at h0; simp [h0]

theorem takeV_eq : ∀ {cs r : List V} {n : Nat}, takeV cs n = some r → r = cs.take n ∧ n ≤ cs.length
  | cs, r, 0, h => by simp [takeV] at h; subst h; simp
  | [], r, n + 1, h => by simp [takeV] at h
  | c :: cs, r, n + 1, h => by
    simp only [takeV, Option.map_eq_some_iff] at h
    obtain ⟨r', h1, h2⟩ := h
    obtain ⟨h3, h4⟩ := takeV_eq h1
    subst h2; subst h3
    simp; omega
theorem dropV_eq : ∀ (cs : List V) (n : Nat), dropV cs n = cs.drop n
  | cs, 0 => by simp [dropV]
  | [], n + 1 => by simp [dropV]
  | c :: cs, n + 1 => by simp [dropV, dropV_eq cs n]
theorem getV_eq : ∀ (cs : List V) (n : Nat), getV cs n = cs[n]?
  | [], n => by simp [getV]
  | c :: cs, 0 => by simp [getV]
  | c :: cs, n + 1 => by simp [getV, getV_eq cs n]

theorem intsAt_len (k : IntKind) (l : List Int) : ∀ (off n : Nat), (intsAt k l off n).length = n
  | _, 0 => rfl
  | off, n + 1 => by simp [intsAt, intsAt_len k l (off + 1) n]
theorem intsAt_rel (k : IntKind) (l : List Int) : ∀ (off n : Nat), RelL ρ M w (intsAt k l off n) ((List.range n).map fun j => Value.int k (l.getD (off + j) 0))
  | _, 0 => by simp [intsAt, RelL]
  | off, n + 1 => by
    rw [List.range_succ_eq_map]
    simp only [intsAt, List.map_cons, RelL, List.map_map, Nat.add_zero]
    refine ⟨Rel.of_c _, ?_⟩
    have := intsAt_rel k l (off + 1) n
    have e : ((fun j => Value.int k (l.getD (off + j) 0)) ∘ Nat.succ) = fun j => Value.int k (l.getD (off + 1 + j) 0) := by
      funext j; simp [Nat.add_assoc, Nat.add_comm 1 j]
    rw [e]; exact this

/-- What a piece of a block holds, as cells in the world. -/
def CellsAt (ρ : Rho) (M : Nat → Prop) (w : World) (b o : Nat) (n : Nat) (x : Blk) : Prop := match x with
  | .dead => False
  | .ints k l => n ≤ l.length ∧ ∀ j, j < n → w.cell? ⟨b, o + j, none⟩ = some (.int k (l.getD j 0))
  | .vals cs => n ≤ cs.length ∧ ∃ vs, RelL ρ M w cs vs ∧ ∀ j, j < n → w.cell? ⟨b, o + j, none⟩ = vs[j]?

theorem loadBlk_ok {t : Nat} {ti : TI} (ht : TyOK1 P t ti) (hs : 0 < ti.size) {b o off n : Nat} {x : Blk} {y : V} (hc : CellsAt ρ M w b o n x) (hn : off + ti.size ≤ n) (hl : loadBlk ti off x = some y) (h1 : ti.isAgg = false → ti.size = 1) :
    ∃ v, (loadVar t ⟨b, o + off, none⟩).run P w = .ok v w ∧ Rel ρ M w y v := by
  cases x with
  | dead => exact hc.elim
  | ints k l =>
    obtain ⟨hl0, hc⟩ := hc
    simp only [loadBlk, Option.some.injEq] at hl
    subst hl
    have hr := run_loadVar ht hs (b := b) (o := o + off) (vs := (List.range ti.size).map fun j => Value.int k (l.getD (off + j) 0)) (by simp) (fun j hj => by
      rw [Nat.add_assoc, hc (off + j) (by omega)]; simp [hj]) h1
    refine ⟨_, hr, ?_⟩
    cases ha : ti.isAgg with
    | true => simp only [cond_true, if_true, Rel]; exact ⟨_, rfl, by simpa using intsAt_rel k l off ti.size⟩
    | false =>
      have hz := h1 ha
      simp only [cond_false, Bool.false_eq_true, if_false]
      rw [hz]
      exact Rel.of_c _
  | vals cs =>
    obtain ⟨hl0, vs, hrel, hc⟩ := hc
    simp only [loadBlk, dropV_eq] at hl
    split at hl
    · cases hl
    · rename_i r hr
      obtain ⟨h2, h3⟩ := takeV_eq hr
      simp only [Option.some.injEq] at hl
      subst hl
      have hlen := hrel.length
      have hrl : ((vs.drop off).take ti.size).length = ti.size := by simp; omega
      have hrv := run_loadVar ht hs (b := b) (o := o + off) (vs := (vs.drop off).take ti.size) hrl (fun j hj => by
        rw [Nat.add_assoc, hc (off + j) (by omega)]
        simp [List.getElem?_take, hj]) h1
      have hrr : RelL ρ M w r ((vs.drop off).take ti.size) := by rw [h2]; exact (hrel.drop off).take ti.size
      refine ⟨_, hrv, ?_⟩
      unfold packV
      cases ha : ti.isAgg with
      | true => simp only [cond_true, if_true, Rel]; exact ⟨_, rfl, by simpa using hrr⟩
      | false =>
        simp only [cond_false, Bool.false_eq_true, if_false]
        cases r with
        | nil =>
          have := hrr.length
          rw [hrl] at this
          simp at this; omega
        | cons v r =>
          cases hvs : (vs.drop off).take ti.size with
          | nil => rw [hvs] at hrl; simp at hrl; omega
          | cons u us => rw [hvs] at hrr; simp only [RelL] at hrr; exact hrr.1

theorem Own.cell {b C : Nat} {c : Array Value} (ho : Own w b C c) (o : Nat) : w.cell? ⟨b, o, none⟩ = c[o]? := by
  obtain ⟨e, fr, h1, _⟩ := ho
  simp [World.cell?, h1]

/-- A live block's cells. -/
theorem HeapRel.cellsAt (hh : HeapRel F ρ h w) {id b n C : Nat} (hl : (h id).live) (hp : ρ id = some ⟨some b, n, C⟩) : CellsAt ρ (av F (liveM ρ h)) w b 0 n (h id) := by
  obtain ⟨p, h1, h2⟩ := hh.rel id hl
  rw [hp] at h1
  simp only [Option.some.injEq] at h1
  subst h1
  cases hx : h id with
  | dead => rw [hx] at hl; exact hl.elim
  | ints k l =>
    rw [hx] at h2
    obtain ⟨h3, h4⟩ := h2
    rcases h4 with ⟨h5, _⟩ | ⟨b', c, h5, h6, h7, h8⟩
    · cases h5
    · simp only [Option.some.injEq] at h5
      subst h5
      dsimp only at h3
      exact ⟨by omega, fun j hj => by rw [Nat.zero_add, h6.cell]; exact h8 j (by omega)⟩
  | vals cs =>
    rw [hx] at h2
    obtain ⟨h3, ⟨h5, _⟩ | ⟨b', c, h5, h6, h7, h8⟩⟩ := h2
    · cases h5
    simp only [Option.some.injEq] at h5
    subst h5
    dsimp only at h3 h7 h8
    exact ⟨by omega, _, h8, fun j hj => by rw [Nat.zero_add, h6.cell]; simp [List.getElem?_take, hj]⟩

end
end Go.Proofs.Ytnjlpjdncejfcaa.Ev
