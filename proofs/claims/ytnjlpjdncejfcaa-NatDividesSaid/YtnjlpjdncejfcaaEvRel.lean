/-
  The evaluator's meaning: how abstract values and blocks read in a world; what stays when the world goes on. (A text of ours; no condition.)
-/
import Derived.Test.YtnjlpjdncejfcaaEvCode
namespace Go.Proofs.Ytnjlpjdncejfcaa.Ev

/-- Where a block of ours lies: the world's block (none: nothing yet), the cells that are known, all its cells. -/
structure Pl where
  blk : Option Nat
  n : Nat
  C : Nat

abbrev Rho := Nat → Option Pl

mutual
def Rel (ρ : Rho) (M : Nat → Prop) (w : World) : V → Value → Prop
  | .c x, v => v = x
  | .poison, _ => True
  | .ptr id off ext, v => ∃ b n C, ρ id = some ⟨some b, n, C⟩ ∧ off + ext ≤ n ∧ v = .pointer (some ⟨b, off, none⟩)
  | .sw id s, v => 0 < s ∧ ((∃ b n C cap, ρ id = some ⟨some b, n, C⟩ ∧ n % s = 0 ∧ n / s ≤ cap ∧ cap * s ≤ C ∧ v = .slice (some ⟨b, 0, none⟩) (n / s) cap) ∨ (ρ id = some ⟨none, 0, 0⟩ ∧ v = .slice none 0 0))
  | .sl id s off len, v => 0 < s ∧ ((∃ b n C cap, ρ id = some ⟨some b, n, C⟩ ∧ off + len * s ≤ n ∧ len ≤ cap ∧ off + cap * s ≤ C ∧ v = .slice (some ⟨b, off, none⟩) len cap) ∨ (len = 0 ∧ ∃ a, v = .slice a 0 0))
  | .il k s l, v => 0 < s ∧ l.length % s = 0 ∧ ((l = [] ∧ ∃ a, v = .slice a 0 0) ∨ ∃ b o cap, v = .slice (some ⟨b, o, none⟩) (l.length / s) cap ∧ l.length / s ≤ cap ∧ b < w.heap.size ∧ ¬ M b ∧
      ∀ j, j < l.length → w.cell? ⟨b, o + j, none⟩ = some (.int k (l.getD j 0)))
  | .iv n cols, v => 0 < cols.length ∧ ((n = 0 ∧ ∃ a, v = .slice a 0 0) ∨ ∃ b o cap, v = .slice (some ⟨b, o, none⟩) n cap ∧ n ≤ cap ∧ b < w.heap.size ∧ ¬ M b ∧
      ∀ i, i < n → ∀ j, j < cols.length → w.cell? ⟨b, o + i * cols.length + j, none⟩ = (colsAt cols i)[j]?)
  | .ilp k l off ext, v => ∃ b o, v = .pointer (some ⟨b, o + off, none⟩) ∧ off + ext ≤ l.length ∧ b < w.heap.size ∧ ¬ M b ∧ ∀ j, j < l.length → w.cell? ⟨b, o + j, none⟩ = some (.int k (l.getD j 0))
  | .ivp cols i off ext, v => ∃ b o, v = .pointer (some ⟨b, o + off, none⟩) ∧ off + ext ≤ cols.length ∧ b < w.heap.size ∧ ¬ M b ∧ ∀ j, j < cols.length → w.cell? ⟨b, o + j, none⟩ = (colsAt cols i)[j]?
  | .agg cs, v => ∃ vs : Array Value, v = .agg vs ∧ RelL ρ M w cs vs.toList
  | .tup cs, v => ∃ vs : Array Value, v = .tuple vs ∧ RelL ρ M w cs vs.toList
  | .fn f a c, v => ∃ va vc : Array Value, v = .func (.func f) va vc ∧ RelL ρ M w a va.toList ∧ RelL ρ M w c vc.toList
def RelL (ρ : Rho) (M : Nat → Prop) (w : World) : List V → List Value → Prop
  | [], [] => True
  | x :: xs, v :: vs => Rel ρ M w x v ∧ RelL ρ M w xs vs
  | _, _ => False
end

def Blk.live : Blk → Prop
  | .dead => False
  | _ => True

/-- A block of ours in the world. -/
def Own (w : World) (b C : Nat) (c : Array Value) : Prop :=
  ∃ e fr, w.heap[b]? = some (.cells c e fr) ∧ c.size = C ∧ ∀ i, i < C → ¬ (fr.1 ≤ i ∧ i < fr.2)

def BlkRel (ρ : Rho) (M : Nat → Prop) (w : World) (p : Pl) : Blk → Prop
  | .dead => True
  | .ints k l => l.length = p.n ∧ ((p.blk = none ∧ l = [] ∧ p.C = 0) ∨ ∃ b c, p.blk = some b ∧ Own w b p.C c ∧ p.n ≤ p.C ∧ ∀ i, i < l.length → c[i]? = some (.int k (l.getD i 0)))
  | .vals cs => cs.length = p.n ∧ ((p.blk = none ∧ cs = [] ∧ p.C = 0) ∨ ∃ b c, p.blk = some b ∧ Own w b p.C c ∧ p.n ≤ p.C ∧ RelL ρ M w cs (c.toList.take p.n))

/-- The world's blocks that are ours to write. -/
def liveM (ρ : Rho) (h : Nat → Blk) (b : Nat) : Prop := ∃ id n C, ρ id = some ⟨some b, n, C⟩ ∧ (h id).live

/-- What no immutable slice lies in: what is ours to write, and what is others'. -/
def av (F M : Nat → Prop) (b : Nat) : Prop := F b ∨ M b

structure HeapRel (F : Nat → Prop) (ρ : Rho) (h : Nat → Blk) (w : World) : Prop where
  wf : ∀ id p, ρ id = some p → p.n ≤ p.C
  rel : ∀ id, (h id).live → ∃ p, ρ id = some p ∧ BlkRel ρ (av F (liveM ρ h)) w p (h id)
  inj : ∀ id id' b n C n' C', (h id).live → (h id').live → ρ id = some ⟨some b, n, C⟩ → ρ id' = some ⟨some b, n', C'⟩ → id = id'
  low : ∀ b, F b → b < w.heap.size
  out : ∀ b, liveM ρ h b → ¬ F b

/-- What no operation of ours turns. -/
structure Keeps (w w' : World) : Prop where
  os : w'.os = w.os
  tape : w'.tape = w.tape
  output : w'.output = w.output
theorem Keeps.refl (w : World) : Keeps w w := ⟨rfl, rfl, rfl⟩
theorem Keeps.trans {a b c : World} (h : Keeps a b) (k : Keeps b c) : Keeps a c := ⟨k.os.trans h.os, k.tape.trans h.tape, k.output.trans h.output⟩

structure Ext (M : Nat → Prop) (w : World) (M' : Nat → Prop) (w' : World) : Prop where
  size : w.heap.size ≤ w'.heap.size
  same : ∀ b, b < w.heap.size → ¬ M b → w'.heap[b]? = w.heap[b]?
  sub : ∀ b, M' b → M b ∨ w.heap.size ≤ b
  keeps : Keeps w w'

def Sub (ρ ρ' : Rho) : Prop := ∀ id p, ρ id = some p → ρ' id = some p

theorem Ext.refl (M : Nat → Prop) (w : World) : Ext M w M w := ⟨Nat.le_refl _, fun _ _ _ => rfl, fun _ h => .inl h, .refl _⟩
theorem Ext.trans {M M' M'' : Nat → Prop} {w w' w'' : World} (h : Ext M w M' w') (h' : Ext M' w' M'' w'') : Ext M w M'' w'' where
  size := Nat.le_trans h.size h'.size
  same b hb hm := by
    have hm' : ¬ M' b := fun hx => (h.sub b hx).elim hm (fun hs => absurd hs (by omega))
    rw [h'.same b (Nat.lt_of_lt_of_le hb h.size) hm', h.same b hb hm]
  sub b hb := (h'.sub b hb).elim (h.sub b) (fun hs => .inr (Nat.le_trans h.size hs))
  keeps := h.keeps.trans h'.keeps
theorem Sub.refl (ρ : Rho) : Sub ρ ρ := fun _ _ h => h
theorem Sub.trans {ρ ρ' ρ'' : Rho} (h : Sub ρ ρ') (h' : Sub ρ' ρ'') : Sub ρ ρ'' := fun id p hp => h' id p (h id p hp)

theorem cell_same {w w' : World} {b : Nat} (h : w'.heap[b]? = w.heap[b]?) (o : Nat) : w'.cell? ⟨b, o, none⟩ = w.cell? ⟨b, o, none⟩ := by
  unfold World.cell?; rw [h]

theorem av_ext {F M M' : Nat → Prop} {w w' : World} (he : Ext M w M' w') {b : Nat} (hb : b < w.heap.size) (h : ¬ av F M b) : ¬ av F M' b :=
  fun hx => hx.elim (fun hf => h (.inl hf)) (fun hm => (he.sub b hm).elim (fun hm => h (.inr hm)) (fun hz => absurd hz (by omega)))

mutual
theorem Rel.mono {ρ ρ' : Rho} {F M M' : Nat → Prop} {w w' : World} (hs : Sub ρ ρ') (he : Ext M w M' w') : ∀ (x : V) (v : Value), Rel ρ (av F M) w x v → Rel ρ' (av F M') w' x v
  | .c _, _, h => by simpa only [Rel] using h
  | .poison, _, _ => by simp only [Rel]
  | .ptr _ _ _, _, h => by
    simp only [Rel] at h ⊢
    obtain ⟨b, n, C, h1, h2, h3⟩ := h
    exact ⟨b, n, C, hs _ _ h1, h2, h3⟩
  | .sw _ _, _, h => by
    simp only [Rel] at h ⊢
    obtain ⟨h0, ⟨b, n, C, cap, h1, h2⟩ | ⟨h1, h2⟩⟩ := h
    · exact ⟨h0, .inl ⟨b, n, C, cap, hs _ _ h1, h2⟩⟩
    · exact ⟨h0, .inr ⟨hs _ _ h1, h2⟩⟩
  | .sl _ _ _ _, _, h => by
    simp only [Rel] at h ⊢
    obtain ⟨h0, ⟨b, n, C, cap, h1, h2⟩ | ⟨h1, h2⟩⟩ := h
    · exact ⟨h0, .inl ⟨b, n, C, cap, hs _ _ h1, h2⟩⟩
    · exact ⟨h0, .inr ⟨h1, h2⟩⟩
  | .il _ _ _, _, h => by
    simp only [Rel] at h ⊢
    obtain ⟨h0, h1, h2 | ⟨b, o, cap, h2, h3, h4, h5, h6⟩⟩ := h
    · exact ⟨h0, h1, .inl h2⟩
    · exact ⟨h0, h1, .inr ⟨b, o, cap, h2, h3, Nat.lt_of_lt_of_le h4 he.size, av_ext he h4 h5, fun j hj => by rw [cell_same (he.same b h4 (fun hm => h5 (.inr hm)))]; exact h6 j hj⟩⟩
  | .iv _ _, _, h => by
    simp only [Rel] at h ⊢
    obtain ⟨h0, h2 | ⟨b, o, cap, h2, h3, h4, h5, h7⟩⟩ := h
    · exact ⟨h0, .inl h2⟩
    · exact ⟨h0, .inr ⟨b, o, cap, h2, h3, Nat.lt_of_lt_of_le h4 he.size, av_ext he h4 h5, fun i hi j hj => by rw [cell_same (he.same b h4 (fun hm => h5 (.inr hm)))]; exact h7 i hi j hj⟩⟩
  | .ilp _ _ _ _, _, h => by
    simp only [Rel] at h ⊢
    obtain ⟨b, o, h2, h3, h4, h5, h6⟩ := h
    exact ⟨b, o, h2, h3, Nat.lt_of_lt_of_le h4 he.size, av_ext he h4 h5, fun j hj => by rw [cell_same (he.same b h4 (fun hm => h5 (.inr hm)))]; exact h6 j hj⟩
  | .ivp _ _ _ _, _, h => by
    simp only [Rel] at h ⊢
    obtain ⟨b, o, h2, h3, h4, h5, h7⟩ := h
    exact ⟨b, o, h2, h3, Nat.lt_of_lt_of_le h4 he.size, av_ext he h4 h5, fun j hj => by rw [cell_same (he.same b h4 (fun hm => h5 (.inr hm)))]; exact h7 j hj⟩
  | .agg cs, _, h => by
    simp only [Rel] at h ⊢
    obtain ⟨vs, h1, h2⟩ := h
    exact ⟨vs, h1, RelL.mono hs he cs _ h2⟩
  | .tup cs, _, h => by
    simp only [Rel] at h ⊢
    obtain ⟨vs, h1, h2⟩ := h
    exact ⟨vs, h1, RelL.mono hs he cs _ h2⟩
  | .fn _ a c, _, h => by
    simp only [Rel] at h ⊢
    obtain ⟨va, vc, h1, h2, h3⟩ := h
    exact ⟨va, vc, h1, RelL.mono hs he a _ h2, RelL.mono hs he c _ h3⟩
theorem RelL.mono {ρ ρ' : Rho} {F M M' : Nat → Prop} {w w' : World} (hs : Sub ρ ρ') (he : Ext M w M' w') : ∀ (x : List V) (v : List Value), RelL ρ (av F M) w x v → RelL ρ' (av F M') w' x v
  | [], [], _ => by simp only [RelL]
  | x :: xs, v :: vs, h => by
    simp only [RelL] at h ⊢
    exact ⟨Rel.mono hs he x v h.1, RelL.mono hs he xs vs h.2⟩
  | [], _ :: _, h => by simp only [RelL] at h
  | _ :: _, [], h => by simp only [RelL] at h
end

theorem RelL.consts {ρ : Rho} {M : Nat → Prop} {w : World} : ∀ (vs : List Value), RelL ρ M w (vs.map .c) vs
  | [] => by simp only [List.map_nil, RelL]
  | v :: vs => by simp only [List.map_cons, RelL, Rel]; exact ⟨trivial, RelL.consts vs⟩
theorem colsAt_length : ∀ (cols : List Col) (i : Nat), (colsAt cols i).length = cols.length
  | [], _ => rfl
  | _ :: r, i => by simp only [colsAt, List.length_cons, colsAt_length r i]

theorem RelL.length {ρ : Rho} {M : Nat → Prop} {w : World} : ∀ {xs : List V} {vs : List Value}, RelL ρ M w xs vs → xs.length = vs.length
  | [], [], _ => rfl
  | _ :: xs, _ :: vs, h => by simp only [RelL] at h; simp [RelL.length h.2]
  | [], _ :: _, h => by simp only [RelL] at h
  | _ :: _, [], h => by simp only [RelL] at h

theorem RelL.get {ρ : Rho} {M : Nat → Prop} {w : World} : ∀ {xs : List V} {vs : List Value}, RelL ρ M w xs vs → ∀ {i : Nat} {x : V}, xs[i]? = some x → ∃ v, vs[i]? = some v ∧ Rel ρ M w x v
  | [], [], _, i, x, hx => by simp at hx
  | y :: xs, v :: vs, h, 0, x, hx => by
    simp only [RelL] at h
    simp at hx; subst hx
    exact ⟨v, rfl, h.1⟩
  | y :: xs, v :: vs, h, i + 1, x, hx => by
    simp only [RelL] at h
    simp at hx
    obtain ⟨u, hu, hr⟩ := RelL.get h.2 hx
    exact ⟨u, by simpa using hu, hr⟩
  | [], _ :: _, h, _, _, _ => by simp only [RelL] at h
  | _ :: _, [], h, _, _, _ => by simp only [RelL] at h

theorem RelL.append {ρ : Rho} {M : Nat → Prop} {w : World} : ∀ {xs : List V} {vs : List Value} {ys : List V} {us : List Value}, RelL ρ M w xs vs → RelL ρ M w ys us → RelL ρ M w (xs ++ ys) (vs ++ us)
  | [], [], _, _, _, h => by simpa using h
  | _ :: xs, _ :: vs, _, _, h, h' => by
    simp only [RelL] at h
    simp only [List.cons_append, RelL]
    exact ⟨h.1, RelL.append h.2 h'⟩
  | [], _ :: _, _, _, h, _ => by simp only [RelL] at h
  | _ :: _, [], _, _, h, _ => by simp only [RelL] at h

theorem RelL.take {ρ : Rho} {M : Nat → Prop} {w : World} : ∀ {xs : List V} {vs : List Value} (n : Nat), RelL ρ M w xs vs → RelL ρ M w (xs.take n) (vs.take n)
  | [], [], n, h => by simp [RelL]
  | _ :: _, _ :: _, 0, _ => by simp [RelL]
  | _ :: xs, _ :: vs, n + 1, h => by
    simp only [RelL] at h
    simp only [List.take_succ_cons, RelL]
    exact ⟨h.1, RelL.take n h.2⟩
  | [], _ :: _, _, h => by simp only [RelL] at h
  | _ :: _, [], _, h => by simp only [RelL] at h

theorem RelL.drop {ρ : Rho} {M : Nat → Prop} {w : World} : ∀ {xs : List V} {vs : List Value} (n : Nat), RelL ρ M w xs vs → RelL ρ M w (xs.drop n) (vs.drop n)
  | [], [], n, h => by simp [RelL]
  | _ :: _, _ :: _, 0, h => by simpa using h
  | _ :: xs, _ :: vs, n + 1, h => by
    simp only [RelL] at h
    simp only [List.drop_succ_cons]
    exact RelL.drop n h.2
  | [], _ :: _, _, h => by simp only [RelL] at h
  | _ :: _, [], _, h => by simp only [RelL] at h

mutual
theorem Rel.world {ρ : Rho} {M : Nat → Prop} {w w' : World} (hw : w'.heap = w.heap) : ∀ (x : V) (v : Value), Rel ρ M w x v → Rel ρ M w' x v
  | .c _, _, h => by simpa only [Rel] using h
  | .poison, _, _ => by simp only [Rel]
  | .ptr _ _ _, _, h => by simpa only [Rel] using h
  | .sw _ _, _, h => by simpa only [Rel] using h
  | .sl _ _ _ _, _, h => by simpa only [Rel] using h
  | .il _ _ _, _, h => by
    simp only [Rel] at h ⊢
    obtain ⟨h0, h1, h2 | ⟨b, o, cap, h2, h3, h4, h5, h6⟩⟩ := h
    · exact ⟨h0, h1, .inl h2⟩
    · exact ⟨h0, h1, .inr ⟨b, o, cap, h2, h3, by rw [hw]; exact h4, h5, fun j hj => by rw [cell_same (w := w) (by rw [hw])]; exact h6 j hj⟩⟩
  | .iv _ _, _, h => by
    simp only [Rel] at h ⊢
    obtain ⟨h0, h2 | ⟨b, o, cap, h2, h3, h4, h5, h7⟩⟩ := h
    · exact ⟨h0, .inl h2⟩
    · exact ⟨h0, .inr ⟨b, o, cap, h2, h3, by rw [hw]; exact h4, h5, fun i hi j hj => by rw [cell_same (w := w) (by rw [hw])]; exact h7 i hi j hj⟩⟩
  | .ilp _ _ _ _, _, h => by
    simp only [Rel] at h ⊢
    obtain ⟨b, o, h2, h3, h4, h5, h6⟩ := h
    exact ⟨b, o, h2, h3, by rw [hw]; exact h4, h5, fun j hj => by rw [cell_same (w := w) (by rw [hw])]; exact h6 j hj⟩
  | .ivp _ _ _ _, _, h => by
    simp only [Rel] at h ⊢
    obtain ⟨b, o, h2, h3, h4, h5, h7⟩ := h
    exact ⟨b, o, h2, h3, by rw [hw]; exact h4, h5, fun j hj => by rw [cell_same (w := w) (by rw [hw])]; exact h7 j hj⟩
  | .agg cs, _, h => by
    simp only [Rel] at h ⊢
    obtain ⟨vs, h1, h2⟩ := h
    exact ⟨vs, h1, RelL.world hw cs _ h2⟩
  | .tup cs, _, h => by
    simp only [Rel] at h ⊢
    obtain ⟨vs, h1, h2⟩ := h
    exact ⟨vs, h1, RelL.world hw cs _ h2⟩
  | .fn _ a c, _, h => by
    simp only [Rel] at h ⊢
    obtain ⟨va, vc, h1, h2, h3⟩ := h
    exact ⟨va, vc, h1, RelL.world hw a _ h2, RelL.world hw c _ h3⟩
theorem RelL.world {ρ : Rho} {M : Nat → Prop} {w w' : World} (hw : w'.heap = w.heap) : ∀ (x : List V) (v : List Value), RelL ρ M w x v → RelL ρ M w' x v
  | [], [], _ => by simp only [RelL]
  | x :: xs, v :: vs, h => by
    simp only [RelL] at h ⊢
    exact ⟨Rel.world hw x v h.1, RelL.world hw xs vs h.2⟩
  | [], _ :: _, h => by simp only [RelL] at h
  | _ :: _, [], h => by simp only [RelL] at h
end

theorem BlkRel.world {ρ : Rho} {M : Nat → Prop} {w w' : World} (hw : w'.heap = w.heap) {p : Pl} {x : Blk} (h : BlkRel ρ M w p x) : BlkRel ρ M w' p x := by
  cases x with
  | dead => trivial
  | ints k l =>
    obtain ⟨h1, h2 | ⟨b, c, h2, ⟨e, fr, h3, h4⟩, h5⟩⟩ := h
    · exact ⟨h1, .inl h2⟩
    · exact ⟨h1, .inr ⟨b, c, h2, ⟨e, fr, by rw [hw]; exact h3, h4⟩, h5⟩⟩
  | vals cs =>
    obtain ⟨h1, h2 | ⟨b, c, h2, ⟨e, fr, h3, h4⟩, h5, h6⟩⟩ := h
    · exact ⟨h1, .inl h2⟩
    · exact ⟨h1, .inr ⟨b, c, h2, ⟨e, fr, by rw [hw]; exact h3, h4⟩, h5, RelL.world hw _ _ h6⟩⟩

theorem RelL.none {ρ : Rho} {F M : Nat → Prop} {w : World} {xs : List V} {vs : List Value} (h : RelL (fun _ => none) (av F M) w xs vs) : RelL ρ (av F M) w xs vs :=
  RelL.mono (fun _ _ h => by cases h) (Ext.refl _ _) xs vs h
theorem Rel.none {ρ : Rho} {F M : Nat → Prop} {w : World} {x : V} {v : Value} (h : Rel (fun _ => none) (av F M) w x v) : Rel ρ (av F M) w x v :=
  Rel.mono (fun _ _ h => by cases h) (Ext.refl _ _) x v h

theorem BlkRel.mono {ρ ρ' : Rho} {F M M' : Nat → Prop} {w w' : World} (hs : Sub ρ ρ') (he : Ext M w M' w') {p : Pl} {x : Blk} (h : BlkRel ρ (av F M) w p x)
    (hb : ∀ b, p.blk = some b → w'.heap[b]? = w.heap[b]?) : BlkRel ρ' (av F M') w' p x := by
  cases x with
  | dead => trivial
  | ints k l =>
    obtain ⟨h1, h2 | ⟨b, c, h2, ⟨e, fr, h3, h4⟩, h5⟩⟩ := h
    · exact ⟨h1, .inl h2⟩
    · exact ⟨h1, .inr ⟨b, c, h2, ⟨e, fr, by rw [hb b h2]; exact h3, h4⟩, h5⟩⟩
  | vals cs =>
    obtain ⟨h1, h2 | ⟨b, c, h2, ⟨e, fr, h3, h4⟩, h5, h6⟩⟩ := h
    · exact ⟨h1, .inl h2⟩
    · exact ⟨h1, .inr ⟨b, c, h2, ⟨e, fr, by rw [hb b h2]; exact h3, h4⟩, h5, RelL.mono hs he _ _ h6⟩⟩

end Go.Proofs.Ytnjlpjdncejfcaa.Ev
