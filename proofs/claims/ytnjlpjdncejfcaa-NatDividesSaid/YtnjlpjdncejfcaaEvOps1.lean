/-
  The evaluator's operations, first part: what a type's row says of the program; operations that leave the world alone. (A text of ours; no condition.)
-/
import Derived.Test.YtnjlpjdncejfcaaEvRel
namespace Go.Proofs.Ytnjlpjdncejfcaa.Ev

def tkOK (P : Program) (t : Nat) : TK → Prop
  | .int k => P.underlying t = some (.int k)
  | .bool => P.underlying t = some .bool
  | .str => P.underlying t = some .string
  | .slice e => P.underlying t = some (.slice e)
  | .arr n e => P.underlying t = some (.array n e)
  | .struct fs => ∃ fields : Array Field, P.underlying t = some (.struct fields) ∧ fields.toList.map (fun f => (f.type, f.offset)) = fs ∧ ∀ f ∈ fields.toList, f.name ≠ "_"
  | .ptr e => P.underlying t = some (.pointer e)
  | .func => ∃ a b c, P.underlying t = some (.func a b c)
  | .other => ∃ d, P.underlying t = some d ∧ (∀ fs, d ≠ .struct fs) ∧ ∀ n e, d ≠ .array n e

structure TyOK1 (P : Program) (t : Nat) (ti : TI) : Prop where
  info : ∃ i, P.info? t = some i ∧ i.size = ti.size ∧ i.bytes = ti.bytes ∧ ∃ z, i.zero = some z ∧ z.cells.toList = ti.zero
  zlen : ti.zero.length = ti.size
  one : ti.isAgg = false → ti.size = 1
  tk : tkOK P t ti.tk
  eq : ti.isAgg = true → P.stoodInHeld t = false ∧ P.eqGuardType P.depth t = false

def TyOK (P : Program) (ty : Nat → Option TI) : Prop := ∀ t ti, ty t = some ti → TyOK1 P t ti

section
variable {P : Program} {w : World} {t : Nat} {ti : TI}
theorem TyOK1.sizeOf (h : TyOK1 P t ti) : (Go.sizeOf t).run P w = .ok ti.size w := by
  obtain ⟨i, h1, h2, _⟩ := h.info
  simp [Go.sizeOf, typeInfo, h1, h2]
theorem TyOK1.typeInfo (h : TyOK1 P t ti) : ∃ i, (Go.typeInfo t).run P w = .ok i w ∧ i.bytes = ti.bytes ∧ i.size = ti.size := by
  obtain ⟨i, h1, h2, h3, _⟩ := h.info
  exact ⟨i, by simp [Go.typeInfo, h1], h3, h2⟩
theorem TyOK1.zeroValue (h : TyOK1 P t ti) : ∃ z, (Go.zeroValue t).run P w = .ok z w ∧ z.cells.toList = ti.zero := by
  obtain ⟨i, h1, _, _, z, h4, h5⟩ := h.info
  exact ⟨z, by simp [Go.zeroValue, Go.typeInfo, h1, h4], h5⟩
theorem TyOK1.isAgg (h : TyOK1 P t ti) : (Go.isAgg t).run P w = .ok ti.isAgg w := by
  have hk := h.tk
  unfold TI.isAgg
  cases hti : ti.tk <;> rw [hti] at hk <;> simp only [tkOK] at hk
  case struct fs => obtain ⟨fields, h1, _⟩ := hk; simp [Go.isAgg, run_underlying h1]
  case other => obtain ⟨d, h1, h2, h3⟩ := hk; cases d <;> simp_all [Go.isAgg, run_underlying h1]
  case func => obtain ⟨a, b, c, h1⟩ := hk; simp [Go.isAgg, run_underlying h1]
  all_goals simp [Go.isAgg, run_underlying hk]
theorem TyOK1.und (h : TyOK1 P t ti) : ∃ d, P.underlying t = some d := by
  have hk := h.tk
  cases hti : ti.tk <;> rw [hti] at hk <;> simp only [tkOK] at hk
  case struct fs => obtain ⟨fields, h1, _⟩ := hk; exact ⟨_, h1⟩
  case other => obtain ⟨d, h1, h2, h3⟩ := hk; exact ⟨_, h1⟩
  case func => obtain ⟨a, b, c, h1⟩ := hk; exact ⟨_, h1⟩
  all_goals exact ⟨_, hk⟩
end

/-- The field's row. -/
theorem field_row {fields : Array Field} {fs : List (Nat × Nat)} {i t off : Nat} (h : fields.toList.map (fun f => (f.type, f.offset)) = fs) (hi : fs[i]? = some (t, off)) :
    ∃ f, fields[i]? = some f ∧ f.type = t ∧ f.offset = off := by
  subst h
  simp only [List.getElem?_map, Option.map_eq_some_iff] at hi
  obtain ⟨f, h1, h2⟩ := hi
  exact ⟨f, by simpa using h1, by cases h2; rfl, by cases h2; rfl⟩

theorem blt_lt {a b : Nat} (h : Nat.blt a b = true) : a < b := Nat.le_of_ble_eq_true h
theorem ble_le {a b : Nat} (h : Nat.ble a b = true) : a ≤ b := Nat.le_of_ble_eq_true h
theorem beq_eq {a b : Nat} (h : Nat.beq a b = true) : a = b := Nat.eq_of_beq_eq_true h

theorem keq_eq {a b : IntKind} (h : keq a b = true) : a = b := by
  revert h; cases a <;> cases b <;> decide

theorem addr_add (b o n : Nat) : Addr.add ⟨b, o, none⟩ n = ⟨b, o + n, none⟩ := Addr.add_lit b o n

theorem mulw_eq (w n : Nat) : mulw w n = n * w := by unfold mulw; split <;> simp
theorem cnt_eq (w n : Nat) : cnt w n = n / w := by unfold cnt; split <;> simp

/-- What an operation of ours leaves: values, blocks, world. -/
def updW (h : Nat → Blk) : List (Nat × Blk) → Nat → Blk
  | [], j => h j
  | (i, b) :: r, j => updW (fun j => if j = i then b else h j) r j
def updN (h : Nat → Blk) (nid : Nat) : List Blk → Nat → Blk
  | [], j => h j
  | b :: r, j => updN (fun j => if j = nid then b else h j) (nid + 1) r j
def outH (h : Nat → Blk) (nid : Nat) (out : Out) : Nat → Blk := updN (updW h out.wr) nid out.new

def OpOK (F : Nat → Prop) (ρ : Rho) (h : Nat → Blk) (w : World) (nid : Nat) (out : Out) (r : Result Next) : Prop :=
  ∃ v w' ρ', (r = .ok (.value v) w' ∨ (r = .ok .skip w' ∧ v = undef)) ∧ Sub ρ ρ' ∧ (∀ id, (id < nid ∨ nid + out.new.length ≤ id) → ρ' id = ρ id) ∧
    HeapRel F ρ' (outH h nid out) w' ∧ Rel ρ' (av F (liveM ρ' (outH h nid out))) w' out.val v ∧ Ext (liveM ρ h) w (liveM ρ' (outH h nid out)) w'

section
variable {P : Program} {F : Nat → Prop} {ρ : Rho} {h : Nat → Blk} {w : World} {nid : Nat}

theorem OpOK.pure {x : V} {v : Value} {tc : List Nat} {r : Result Next} (hh : HeapRel F ρ h w) (hr : r = .ok (.value v) w) (hv : Rel ρ (av F (liveM ρ h)) w x v) : OpOK F ρ h w nid { val := x, touch := tc } r :=
  ⟨v, w, ρ, .inl hr, Sub.refl _, fun _ _ => rfl, hh, hv, Ext.refl _ _⟩

theorem Rel.cells {ρ : Rho} {M : Nat → Prop} {w : World} {x : V} {v : Value} {cs : List V} (hv : Rel ρ M w x v) (hc : cellsO x = some cs) : RelL ρ M w cs v.cells.toList := by
  cases x with
  | c u => simp only [Rel] at hv; subst hv; cases v <;> simp_all [cellsO] <;> subst hc <;> simp [RelL, Value.cells, Rel]
  | poison => simp [cellsO] at hc
  | agg cs => simp only [Rel] at hv; obtain ⟨vs, rfl, hr⟩ := hv; simp [cellsO] at hc; subst hc; simpa [Value.cells] using hr
  | ptr _ _ _ => simp [cellsO] at hc; subst hc; have hv' := hv; simp only [Rel] at hv; obtain ⟨_, _, _, _, _, rfl⟩ := hv; simp only [Value.cells, RelL, and_true]; exact hv'
  | sw _ _ => simp [cellsO] at hc; subst hc; have hv' := hv; simp only [Rel] at hv; obtain ⟨_, ⟨_, _, _, _, _, _, _, _, rfl⟩ | ⟨_, rfl⟩⟩ := hv <;> (simp only [Value.cells, RelL, and_true]; exact hv')
  | sl _ _ _ _ => simp [cellsO] at hc; subst hc; have hv' := hv; simp only [Rel] at hv; obtain ⟨_, ⟨_, _, _, _, _, _, _, _, rfl⟩ | ⟨_, _, rfl⟩⟩ := hv <;> (simp only [Value.cells, RelL, and_true]; exact hv')
  | il _ _ _ => simp [cellsO] at hc; subst hc; have hv' := hv; simp only [Rel] at hv; obtain ⟨_, _, ⟨_, _, rfl⟩ | ⟨_, _, _, rfl, _⟩⟩ := hv <;> (simp only [Value.cells, RelL, and_true]; exact hv')
  | iv _ _ => simp [cellsO] at hc; subst hc; have hv' := hv; simp only [Rel] at hv; obtain ⟨_, ⟨_, _, rfl⟩ | ⟨_, _, _, rfl, _⟩⟩ := hv <;> (simp only [Value.cells, RelL, and_true]; exact hv')
  | ilp _ _ _ _ => simp [cellsO] at hc; subst hc; have hv' := hv; simp only [Rel] at hv; obtain ⟨_, _, rfl, _⟩ := hv; simp only [Value.cells, RelL, and_true]; exact hv'
  | ivp _ _ _ _ => simp [cellsO] at hc; subst hc; have hv' := hv; simp only [Rel] at hv; obtain ⟨_, _, rfl, _⟩ := hv; simp only [Value.cells, RelL, and_true]; exact hv'
  | tup cs => simp [cellsO] at hc; subst hc; have hv' := hv; simp only [Rel] at hv; obtain ⟨vs, rfl, hr⟩ := hv; simp only [Value.cells, RelL, and_true]; exact hv'
  | fn f a c => simp [cellsO] at hc; subst hc; have hv' := hv; simp only [Rel] at hv; obtain ⟨va, vc, rfl, _, _⟩ := hv; simp only [Value.cells, RelL, and_true]; exact hv'

end
end Go.Proofs.Ytnjlpjdncejfcaa.Ev
