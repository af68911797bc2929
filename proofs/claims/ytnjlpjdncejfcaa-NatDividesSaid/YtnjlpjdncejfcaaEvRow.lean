/-
  From a function's law to a row's call: arguments as they are read; a world that is only added to. (A text of ours; no condition.)
-/
import Derived.Test.YtnjlpjdncejfcaaEvUse
import Derived.WalkKit
import Derived.ProofKit
import Derived.OpenShut
import Derived.ShutString
import Derived.ChangeOld
import Derived.Below
import Derived.SizedLaws
import Derived.ChangeSlices
import Derived.Deep.SlicePairs
namespace Go.Proofs.Ytnjlpjdncejfcaa.Ev
open Go.RowKit Go.ChangeShapes Go.WideShapes Go.ChangeAt
set_option linter.unusedVariables false

/-- A call with nothing of its own handed in: what it tells, and nothing old is changed. -/
theorem FnSpec.calls0 {P : Program} {f : Nat} {args : List V} {v : V} (h : FnSpec P f args [] v []) {w : World} {args' : List Value} (hr : RelL (fun _ => none) (fun _ => False) w args args') :
    Calls P f args'.toArray w fun e w' => ∃ u, e = .returned u ∧ Rel (fun _ => none) (fun _ => False) w' v u ∧ Below w.heap.size w w' := by
  have hdd : ∀ i, ¬ (blkAt [] i).live := fun i h => h
  have hno : ∀ (ρ : Rho) b, ¬ liveM ρ (blkAt []) b := fun ρ b hb => by obtain ⟨_, _, _, _, hl⟩ := hb; exact hdd _ hl
  have hH : HeapRel (fun _ => False) (fun _ => none) (blkAt []) w :=
    { wf := fun id p hp => by cases hp
      rel := fun id hl => absurd hl (hdd id)
      inj := fun i j b n C n' C' hi => absurd hi (hdd i)
      low := fun b hb => False.elim hb
      out := fun b hb => (hno _ b hb).elim }
  refine Calls.mono (h.calls (fun _ => False) (fun _ => none) w args' hH (fun _ _ => rfl) (RelL.avoid (fun b hb => hb.elim id (hno _ b)) _ _ hr)) ?_
  rintro e w' ⟨u, he, ρ', h1, h2, h3, h4, h5⟩
  have hρ : ρ' = fun _ => none := by funext i; exact h2 i (Nat.zero_le _)
  subst hρ
  exact ⟨u, he, Rel.avoid (fun b hb => hb.elim) _ _ h4, ⟨h5.keeps.os, h5.keeps.tape, h5.keeps.output, h5.size, fun k hk => h5.same k hk (hno _ k)⟩⟩

section
variable {H : Type} {enc : TypeId × Value → H} {P : Program} {w : World} {base : Nat} {sp : Nat → Bool} {held : Bool}

/-- A struct of three whole numbers, read. -/
theorem read3 {t : TypeId} {f0 f1 f2 : Field} {k0 k1 k2 : IntKind} (ht : P.underlying t = some (.struct #[f0, f1, f2])) (hc : P.cellsOf t = 3)
    (o0 : f0.offset = 0) (o1 : f1.offset = 1) (o2 : f2.offset = 2) (c0 : P.cellsOf f0.type = 1) (c1 : P.cellsOf f1.type = 1) (c2 : P.cellsOf f2.type = 1)
    (u0 : P.underlying f0.type = some (.int k0)) (u1 : P.underlying f1.type = some (.int k1)) (u2 : P.underlying f2.type = some (.int k2))
    {base' : Nat} {v : Value} {d : DataW H} {ps : List MemPlace} (hok : Value.okWide P w .any base' t v) (hd : DataW.Trod enc P w base sp held t v d ps) :
    ∃ a b c, v = .agg #[.int k0 a, .int k1 b, .int k2 c] ∧ (Lit.int k0 a).wf = true ∧ (Lit.int k1 b).wf = true ∧ (Lit.int k2 c).wf = true := by
  simp only [Value.okWide, ht] at hok
  obtain ⟨cs, rfl, hsz, _⟩ := hok
  obtain ⟨fuel, hy⟩ := hd
  obtain ⟨ys, m, _, _, hcl, hl, hf⟩ := DataW.trod_struct ht hy
  have hy0 := hf 0 f0 rfl
  have hy1 := hf 1 f1 rfl
  have hy2 := hf 2 f2 rfl
  have hl3 : ys.length = 3 := by simpa using hl
  rw [o0, c0] at hy0
  rw [o1, c1] at hy1
  rw [o2, c2] at hy2
  have hcl' : cs.toList.length = 3 := by rw [← hc]; exact hcl
  obtain ⟨l⟩ := cs
  match l, hcl', ys, hl3 with
  | [x0, x1, x2], _, [y0, y1, y2], _ =>
    simp [Value.cells] at hy0 hy1 hy2
    obtain ⟨a, e0, _, w0⟩ := DataW.trod_int u0 hy0
    obtain ⟨b, e1, _, w1⟩ := DataW.trod_int u1 hy1
    obtain ⟨c, e2, _, w2⟩ := DataW.trod_int u2 hy2
    simp at e0 e1 e2
    subst e0 e1 e2
    exact ⟨a, b, c, rfl, w0, w1, w2⟩

/-- A struct of four whole numbers, read. -/
theorem read4 {t : TypeId} {f0 f1 f2 f3 : Field} {k0 k1 k2 k3 : IntKind} (ht : P.underlying t = some (.struct #[f0, f1, f2, f3])) (hc : P.cellsOf t = 4)
    (o0 : f0.offset = 0) (o1 : f1.offset = 1) (o2 : f2.offset = 2) (o3 : f3.offset = 3) (c0 : P.cellsOf f0.type = 1) (c1 : P.cellsOf f1.type = 1) (c2 : P.cellsOf f2.type = 1) (c3 : P.cellsOf f3.type = 1)
    (u0 : P.underlying f0.type = some (.int k0)) (u1 : P.underlying f1.type = some (.int k1)) (u2 : P.underlying f2.type = some (.int k2)) (u3 : P.underlying f3.type = some (.int k3))
    {base' : Nat} {v : Value} {d : DataW H} {ps : List MemPlace} (hok : Value.okWide P w .any base' t v) (hd : DataW.Trod enc P w base sp held t v d ps) :
    ∃ a b c e, v = .agg #[.int k0 a, .int k1 b, .int k2 c, .int k3 e] ∧ (Lit.int k0 a).wf = true ∧ (Lit.int k1 b).wf = true ∧ (Lit.int k2 c).wf = true ∧ (Lit.int k3 e).wf = true := by
  simp only [Value.okWide, ht] at hok
  obtain ⟨cs, rfl, hsz, _⟩ := hok
  obtain ⟨fuel, hy⟩ := hd
  obtain ⟨ys, m, _, _, hcl, hl, hf⟩ := DataW.trod_struct ht hy
  have hy0 := hf 0 f0 rfl
  have hy1 := hf 1 f1 rfl
  have hy2 := hf 2 f2 rfl
  have hy3 := hf 3 f3 rfl
  have hl4 : ys.length = 4 := by simpa using hl
  rw [o0, c0] at hy0
  rw [o1, c1] at hy1
  rw [o2, c2] at hy2
  rw [o3, c3] at hy3
  have hcl' : cs.toList.length = 4 := by rw [← hc]; exact hcl
  obtain ⟨l⟩ := cs
  match l, hcl', ys, hl4 with
  | [x0, x1, x2, x3], _, [y0, y1, y2, y3], _ =>
    simp [Value.cells] at hy0 hy1 hy2 hy3
    obtain ⟨a, e0, _, w0⟩ := DataW.trod_int u0 hy0
    obtain ⟨b, e1, _, w1⟩ := DataW.trod_int u1 hy1
    obtain ⟨c, e2, _, w2⟩ := DataW.trod_int u2 hy2
    obtain ⟨d', e3, _, w3⟩ := DataW.trod_int u3 hy3
    simp at e0 e1 e2 e3
    subst e0 e1 e2 e3
    exact ⟨a, b, c, d', rfl, w0, w1, w2, w3⟩

theorem slice_at {t e : TypeId} (ht : P.underlying t = some (.slice e)) {base' : Nat} {a : Addr} {len cap : Nat} (hok : Value.okWide P w .any base' t (.slice (some a) len cap)) : a.spot = none ∧ a.block < w.heap.size := by
  simp only [Value.okWide, ht, Cell.okWide, Cell.ok] at hok
  obtain ⟨_, _, _, h1, row, cells, h2, _⟩ := hok
  refine ⟨h1, ?_⟩
  unfold World.shape? at h2
  split at h2
  · rename_i c elem fr hc
    exact (Array.getElem?_eq_some_iff.mp hc).1
  · cases h2

theorem at_add {b o n : Nat} : (⟨b, o, none⟩ : Addr).add n = ⟨b, o + n, none⟩ := add_plain b o n

/-- A slice of whole numbers, read. -/
theorem read_ints {t e : TypeId} {k : IntKind} (ht : P.underlying t = some (.slice e)) (he : P.underlying e = some (.int k)) (hc : P.cellsOf e = 1)
    {base' : Nat} {v : Value} {d : DataW H} {ps : List MemPlace} (hok : Value.okWide P w .any base' t v) {fuel : Nat} (hd : DataW.trod enc P w base sp held fuel t [v] = some (d, ps)) :
    ∃ l : List Int, Rel (fun _ => none) (fun _ => False) w (.il k 1 l) v ∧ ∀ x ∈ l, (Lit.int k x).wf = true := by
  rcases open_ints ht he hc hd with ⟨hcs, _⟩ | ⟨a, len, cap, zs, hcs, _, hl, _, hz, _, hcell, hwf⟩
  · obtain rfl : v = .slice none 0 0 := by simpa using hcs
    exact ⟨[], by simp only [Rel]; exact ⟨Nat.one_pos, Nat.mod_one _, .inl ⟨trivial, none, rfl⟩⟩, fun x hx => by cases hx⟩
  · obtain rfl : v = .slice (some a) len cap := by simpa using hcs
    obtain ⟨hs, hb⟩ := slice_at ht hok
    obtain ⟨b, o, s⟩ := a
    simp only at hs hb; subst hs
    have hlz : len ≤ zs.length := by rw [hz]; split <;> omega
    have hlen : (zs.take len).length = len := by rw [List.length_take]; omega
    refine ⟨zs.take len, ?_, fun x hx => hwf x (List.mem_of_mem_take hx)⟩
    simp only [Rel]
    refine ⟨Nat.one_pos, Nat.mod_one _, .inr ⟨b, o, cap, by rw [hlen, Nat.div_one], by rw [hlen, Nat.div_one]; exact hl, hb, fun h => h.elim, fun j hj => ?_⟩⟩
    rw [hlen] at hj
    have := hcell j (by omega)
    rw [at_add] at this
    rw [this, List.getD_eq_getElem?_getD, List.getD_eq_getElem?_getD, List.getElem?_take, if_pos hj]

/-- A slice of structs of a whole number and a bool, read. -/
theorem read_walks {t e : TypeId} {f0 f1 : Field} {k : IntKind} (ht : P.underlying t = some (.slice e)) (he : P.underlying e = some (.struct #[f0, f1])) (ce : P.cellsOf e = 2)
    (o0 : f0.offset = 0) (o1 : f1.offset = 1) (c0 : P.cellsOf f0.type = 1) (c1 : P.cellsOf f1.type = 1) (u0 : P.underlying f0.type = some (.int k)) (u1 : P.underlying f1.type = some .bool)
    {base' : Nat} {v : Value} {d : DataW H} {ps : List MemPlace} (hok : Value.okWide P w .any base' t v) (hd : DataW.Trod enc P w base sp held t v d ps) :
    ∃ (xs : List Int) (ys : List Bool), xs.length = ys.length ∧ Rel (fun _ => none) (fun _ => False) w (.iv xs.length [.ints k xs, .bools ys]) v ∧ ∀ x ∈ xs, (Lit.int k x).wf = true := by
  obtain ⟨fuel, hd⟩ := hd
  have hv : v.cells.toList = [v] := by
    simp only [Value.okWide, ht, Cell.okWide] at hok
    cases v <;> first | rfl | (simp [Cell.ok, ht] at hok)
  rw [hv] at hd
  rcases Go.Deep.open_slice_pairs ht he ce o0 o1 c0 c1 hd with ⟨hcs, _⟩ | ⟨a, len, cap, m, n, V0, V1, D0, D1, P0, P1, hcs, _, hl, _, hm, _, hall⟩
  · obtain rfl : v = .slice none 0 0 := by simpa using hcs
    exact ⟨[], [], rfl, by simp only [Rel]; exact ⟨Nat.succ_pos _, .inl ⟨rfl, none, rfl⟩⟩, fun x hx => by cases hx⟩
  · obtain rfl : v = .slice (some a) len cap := by simpa using hcs
    obtain ⟨hs, hb⟩ := slice_at ht hok
    obtain ⟨b, o, s⟩ := a
    simp only at hs hb; subst hs
    have hlm : len ≤ m := by rw [hm]; split <;> omega
    have h0 : ∀ i, i < len → ∃ x, V0 i = .int k x ∧ (Lit.int k x).wf = true := fun i hi => by
      obtain ⟨_, _, h3, _⟩ := hall i (by omega)
      obtain ⟨x, e1, _, w1⟩ := DataW.trod_int u0 h3
      simp at e1
      exact ⟨x, e1, w1⟩
    have h1 : ∀ i, i < len → ∃ y, V1 i = .bool y := fun i hi => by
      obtain ⟨_, _, _, h4⟩ := hall i (by omega)
      obtain ⟨y, e1, _⟩ := DataW.trod_bool u1 h4
      simp at e1
      exact ⟨y, e1⟩
    let X : Nat → Int := fun i => match V0 i with | .int _ x => x | _ => 0
    let Y : Nat → Bool := fun i => match V1 i with | .bool y => y | _ => false
    refine ⟨(List.range len).map X, (List.range len).map Y, by simp, ?_, fun x hx => ?_⟩
    · simp only [Rel, List.length_map, List.length_range]
      refine ⟨Nat.succ_pos _, .inr ⟨b, o, cap, rfl, hl, hb, fun h => h.elim, fun i hi j hj => ?_⟩⟩
      obtain ⟨g0, g1, _⟩ := hall i (by omega)
      obtain ⟨x, ex, _⟩ := h0 i hi
      obtain ⟨y, ey⟩ := h1 i hi
      have hX : X i = x := by show (match V0 i with | .int _ x => x | _ => 0) = x; rw [ex]
      have hY : Y i = y := by show (match V1 i with | .bool y => y | _ => false) = y; rw [ey]
      rw [at_add] at g0 g1
      match j, hj with
      | 0, _ =>
        simp only [List.length_cons, List.length_nil, Nat.add_zero, colsAt, List.getElem?_cons_zero, colC]
        rw [g0, ex, List.getD_eq_getElem?_getD, List.getElem?_map, List.getElem?_range hi]; simp [hX]
      | 1, _ =>
        simp only [List.length_cons, List.length_nil, Nat.add_assoc, colsAt, List.getElem?_cons_succ, List.getElem?_cons_zero, colC]
        rw [g1, ey, List.getD_eq_getElem?_getD, List.getElem?_map, List.getElem?_range hi]; simp [hY]
    · simp only [List.mem_map, List.mem_range] at hx
      obtain ⟨i, hi, rfl⟩ := hx
      obtain ⟨x, ex, hw⟩ := h0 i hi
      have hX : X i = x := by show (match V0 i with | .int _ x => x | _ => 0) = x; rw [ex]
      rw [hX]; exact hw

/-- A struct of a bool and a slice of whole numbers, read. -/
theorem read_big {t e : TypeId} {f0 f1 : Field} {k : IntKind} (ht : P.underlying t = some (.struct #[f0, f1])) (hc : P.cellsOf t = 2)
    (o0 : f0.offset = 0) (o1 : f1.offset = 1) (c0 : P.cellsOf f0.type = 1) (c1 : P.cellsOf f1.type = 1) (u0 : P.underlying f0.type = some .bool) (u1 : P.underlying f1.type = some (.slice e)) (ue : P.underlying e = some (.int k)) (ce : P.cellsOf e = 1)
    (ct : P.cellTypes P.depth t = some [f0.type, f1.type])
    {base' : Nat} {v : Value} {d : DataW H} {ps : List MemPlace} (hok : Value.okWide P w .any base' t v) (hd : DataW.Trod enc P w base sp held t v d ps) :
    ∃ (b : Bool) (s : Value) (l : List Int), v = .agg #[.bool b, s] ∧ Rel (fun _ => none) (fun _ => False) w (.il k 1 l) s ∧ ∀ x ∈ l, (Lit.int k x).wf = true := by
  simp only [Value.okWide, ht] at hok
  obtain ⟨cs, rfl, hsz, ts, hts, _, hrow⟩ := hok
  rw [ct] at hts
  obtain rfl := Option.some.inj hts
  obtain ⟨fuel, hy⟩ := hd
  obtain ⟨ys, m, _, _, hcl, hl, hf⟩ := DataW.trod_struct ht hy
  have hy0 := hf 0 f0 rfl
  have hy1 := hf 1 f1 rfl
  have hl2 : ys.length = 2 := by simpa using hl
  rw [o0, c0] at hy0
  rw [o1, c1] at hy1
  have hcl' : cs.toList.length = 2 := by rw [← hc]; exact hcl
  obtain ⟨l⟩ := cs
  match l, hcl', ys, hl2 with
  | [x0, x1], _, [y0, y1], _ =>
    simp [Value.cells] at hy0 hy1
    obtain ⟨b, e0, _⟩ := DataW.trod_bool u0 hy0
    simp at e0
    subst e0
    obtain ⟨u, hu, hok1⟩ := hrow 1 x1 rfl
    simp at hu
    subst hu
    obtain ⟨zs, h1, h2⟩ := read_ints (base' := base') (v := x1) (d := y1.1) (ps := y1.2) u1 ue ce (by simp only [Value.okWide, u1]; exact hok1) hy1
    exact ⟨b, x1, zs, rfl, h1, h2⟩

theorem rel_big {k : IntKind} {l : List Int} {b : Bool} {s : Value} {ρ : Rho} {M : Nat → Prop} (h : Rel ρ M w (.il k 1 l) s) : Rel ρ M w (.agg [.c (.bool b), .il k 1 l]) (.agg #[.bool b, s]) := by
  rw [Rel]
  refine ⟨#[.bool b, s], rfl, ?_⟩
  show RelL ρ M w [.c (.bool b), .il k 1 l] [.bool b, s]
  rw [RelL, RelL]
  exact ⟨by rw [Rel], h, by simp only [RelL]⟩

theorem Trod.lt {t : TypeId} {v : Value} {d : DataW H} {ps : List MemPlace} (h : DataW.Trod enc P w base sp held t v d ps) : ∀ x ∈ ps, x.block < w.heap.size := by
  obtain ⟨m, hm⟩ := h
  exact DataW.trod_lt m _ _ _ hm

end
end Go.Proofs.Ytnjlpjdncejfcaa.Ev
