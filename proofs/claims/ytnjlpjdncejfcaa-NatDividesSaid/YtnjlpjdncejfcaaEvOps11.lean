/-
  The evaluator's operations, tenth part: rows grown and copied; conversions. (A text of ours; no condition.)
-/
import Derived.Test.YtnjlpjdncejfcaaEvOps10
namespace Go.Proofs.Ytnjlpjdncejfcaa.Ev
set_option linter.unusedVariables false
set_option linter.unusedSimpArgs false

section
variable {P : Program} {F : Nat → Prop} {ρ : Rho} {h : Nat → Blk} {w : World} {nid : Nat} {ty : Nat → Option TI} {ev : Operand → V} {ae : Operand → Value} {out : Out} {M : Nat → Prop} {ts : Array TypeId} {e : Nat} {te : TI}

theorem growBy_le (newLen : Nat) : ∀ (r c : Nat), c ≤ 2 * newLen → 256 ≤ newLen → Builtin.growBy newLen r c ≤ 2 * newLen
  | 0, c, h, _ => by simpa [Builtin.growBy] using h
  | r + 1, c, h, h2 => by
    simp only [Builtin.growBy]
    split
    · exact h
    · exact growBy_le newLen r _ (by omega) h2

theorem nextcap_le {need cap : Nat} (h : cap < need) : Builtin.nextslicecap need cap ≤ 2 * need := by
  unfold Builtin.nextslicecap
  split
  · omega
  · split
    · omega
    · exact growBy_le need 4 cap (by omega) (by omega)

theorem roomy_le {n b : Nat} (h : roomy n b = true) : n * b ≤ 70368744177664 := by simpa [roomy] using h

theorem cut_ge (need old : Nat) (e : TypeId) (t : Nat) : need ≤ Question.cut (.appendCap need old e) t := by simp [Question.cut]

/-- A block's cells with more behind them. -/
theorem Holds.grow_ints {n m : Nat} {c c' : Array Value} {k : IntKind} {l src : List Int} (hx : Holds ρ M w n c (.ints k l)) (hl : src.length = m) (hs : n + m ≤ c'.size) (h1 : ∀ j, j < n → c'[j]? = c[j]?) (h2 : ∀ j, j < m → c'[n + j]? = some (.int k (src.getD j 0))) :
    Holds ρ M w (n + m) c' (.ints k (l ++ src)) := by
  obtain ⟨a1, a2, a3⟩ := hx
  refine ⟨by simp; omega, hs, fun i hi => ?_⟩
  simp at hi
  by_cases h : i < n
  · rw [h1 i h, a3 i (by omega)]
    simp [List.getD_eq_getElem?_getD, List.getElem?_append_left (show i < l.length by omega)]
  · have e : i = n + (i - n) := by omega
    rw [e, h2 (i - n) (by omega)]
    simp [List.getD_eq_getElem?_getD, List.getElem?_append_right (show l.length ≤ n + (i - n) by omega), a1]

theorem Holds.grow_vals {n m : Nat} {c c' : Array Value} {l src : List V} {us : List Value} (hx : Holds ρ M w n c (.vals l)) (hr : RelL ρ M w src us) (hl : us.length = m) (hs : n + m ≤ c'.size) (h1 : ∀ j, j < n → c'[j]? = c[j]?) (h2 : ∀ j, j < m → c'[n + j]? = us[j]?) :
    Holds ρ M w (n + m) c' (.vals (l ++ src)) := by
  obtain ⟨a1, a2, a3⟩ := hx
  have hlen := hr.length
  refine ⟨by simp; omega, hs, ?_⟩
  have e : c'.toList.take (n + m) = c.toList.take n ++ us := by
    apply List.ext_getElem?
    intro j
    by_cases hj : j < n + m
    · rw [List.getElem?_take_of_lt hj, Array.getElem?_toList]
      by_cases h : j < n
      · rw [h1 j h, List.getElem?_append_left (by simp; omega), List.getElem?_take_of_lt h, Array.getElem?_toList]
      · have e : j = n + (j - n) := by omega
        rw [e, h2 (j - n) (by omega), List.getElem?_append_right (by simp; omega)]
        congr 1
        simp; omega
    · rw [List.getElem?_eq_none (by simp; omega), List.getElem?_eq_none (by simp; omega)]
  rw [e]
  exact a3.append hr

/-- append's run: in place. -/
theorem run_append_in {t e t2 : Nat} {te : TI} {ts : Array TypeId} (t' : TypeId) {d2 : TypeDesc} (hu : P.underlying t = some (.slice e)) (h0 : TyOK1 P e te) (hts0 : ts[0]? = some t) (hts1 : ts[1]? = some t2) (hd2 : P.underlying t2 = some d2) (hd2i : (∃ x, d2 = .slice x) ∨ d2 = .string)
    {base : Option Addr} {n cap m : Nat} {vx : Value} {us : List Value} (hlen : (Builtin.lenOf vx).run P w = .ok m w) (hcells : (Builtin.firstCells te.size m vx).run P w = .ok us.toArray w) (hle : n + m ≤ cap) :
    (Builtin.append_ ts t' #[.slice base n cap, vx]).run P w = match base with
      | some a => ((storeCells (a.add (n * te.size)) us).run P w).andThen fun _ w' => .ok (.slice base (n + m) cap) w'
      | none => .ok (.slice base (n + m) cap) w := by
  have hz : ((underlying t2).run P w) = .ok d2 w := run_underlying hd2 w
  rcases hd2i with ⟨y, rfl⟩ | rfl <;>
    (simp only [Builtin.append_, hts0, hts1, List.getElem?_toArray, List.getElem?_cons_zero, List.getElem?_cons_succ, Sem.run_bind, run_underlying hu, run_underlying hd2, Result.andThen_ok, h0.sizeOf, Sem.run_pure, hlen, Bool.false_eq_true, if_false, if_pos hle, hcells, Bool.not_false, if_true]
     cases base <;> simp [hcells])

theorem zeroCells_size (zero : Array Value) (n : Nat) : (Builtin.zeroCells zero n).size = n * zero.size := by simp [Builtin.zeroCells]

/-- append's run: a new row. -/
theorem run_append_grow {t e t2 : Nat} {te : TI} {ts : Array TypeId} (t' : TypeId) {d2 : TypeDesc} (hu : P.underlying t = some (.slice e)) (h0 : TyOK1 P e te) (hts0 : ts[0]? = some t) (hts1 : ts[1]? = some t2) (hd2 : P.underlying t2 = some d2) (hd2i : (∃ x, d2 = .slice x) ∨ d2 = .string) (hb : 0 < te.bytes)
    {base : Option Addr} {n cap m : Nat} {vx : Value} {us os : List Value} (hlen : (Builtin.lenOf vx).run P w = .ok m w) (hcells : ∀ w' : World, w'.heap = w.heap → (Builtin.firstCells te.size m vx).run P w' = .ok us.toArray w')
    (hold : ∀ w' : World, w'.heap = w.heap → (Builtin.firstCells te.size n (.slice base n cap)).run P w' = .ok os.toArray w') (hlt : cap < n + m) (hroom : roomy (n + m) te.bytes = true) :
    ∃ newCap w' zs, n + m ≤ newCap ∧ zs.size = (newCap - (n + m)) * te.size ∧ (w'.heap = w.heap.push (.cells (os.toArray ++ us.toArray ++ zs) e) ∧ Keeps w w') ∧
      (Builtin.append_ ts t' #[.slice base n cap, vx]).run P w = .ok (.slice (some ⟨w.heap.size, 0, none⟩) (n + m) newCap) w' := by
  have hz : ((underlying t2).run P w) = .ok d2 w := run_underlying hd2 w
  obtain ⟨inf, i1, i2, i3⟩ := h0.typeInfo (w := w)
  have hr := roomy_le hroom
  have hnle : ¬ (n + m ≤ cap) := by omega
  have hb1 : inf.bytes = te.bytes := i2
  have hsm : n + m ≤ 70368744177664 := by
    have : (n + m) * 1 ≤ (n + m) * te.bytes := Nat.mul_le_mul_left _ hb
    omega
  have hnc := nextcap_le (show cap < n + m by omega)
  have hncb : ¬ (Builtin.nextslicecap (n + m) cap * te.bytes > 2 ^ 48) := by
    have h1 : Builtin.nextslicecap (n + m) cap * te.bytes ≤ 2 * (n + m) * te.bytes := Nat.mul_le_mul_right _ hnc
    have h2 : 2 * (n + m) * te.bytes = 2 * ((n + m) * te.bytes) := Nat.mul_assoc _ _ _
    omega
  let w1 : World := { w with drawn := w.drawn + 1 }
  let nc := Question.cut (.appendCap (n + m) cap e) (w.tape w.drawn (.appendCap (n + m) cap e))
  obtain ⟨z, z1, z2⟩ := h0.zeroValue (w := w1)
  obtain ⟨inf1, j1, j2, j3⟩ := h0.typeInfo (w := w1)
  have hzl : z.cells.size = te.size := by have := congrArg List.length z2; simp at this; rw [this, h0.zlen]
  have hch : (choose (.appendCap (n + m) cap e)).run P w = .ok nc w1 := by simp [run_choose, Question.forced, nc, w1]
  have hmx : ¬ (((n + m : Nat) : Int) > IntKind.i64.max ∧ (false = true ∨ inf.bytes = 0)) := by
    rintro ⟨h1, h2 | h2⟩
    · cases h2
    · omega
  refine ⟨nc, { w1 with heap := w1.heap.push (.cells (os.toArray ++ us.toArray ++ Builtin.zeroCells z.cells (nc - (n + m))) e) }, Builtin.zeroCells z.cells (nc - (n + m)), cut_ge _ _ _ _, by rw [zeroCells_size, hzl], ⟨rfl, ⟨rfl, rfl, rfl⟩⟩, ?_⟩
  have ho := hold w1 rfl
  have hc := hcells w1 rfl
  have hncb' : ¬ (Builtin.nextslicecap (n + m) cap * inf.bytes > 2 ^ 48) := by rw [hb1]; exact hncb
  have hmx' : ¬ (((n + m : Nat) : Int) > IntKind.i64.max ∧ inf.bytes = 0) := by
    rintro ⟨_, h2⟩; omega
  rcases hd2i with ⟨y, rfl⟩ | rfl <;>
    (simp only [Builtin.append_, hts0, hts1, List.getElem?_toArray, List.getElem?_cons_zero, List.getElem?_cons_succ, Sem.run_bind, run_underlying hu, run_underlying hd2, Result.andThen_ok, h0.sizeOf, Sem.run_pure, hlen, Bool.false_eq_true, if_false, if_neg hnle, hcells, Bool.not_false, if_true, i1, Sem.run_ite, if_neg hncb', hch, run_askRoom, ho, hc, z1, j1, newRow, run_newObj, false_or]
     rw [if_neg hmx'])

theorem Ext.heq {M : Nat → Prop} {w' : World} (he : w'.heap = w.heap) (hk : Keeps w w') : Ext M w M w' := ⟨by rw [he]; exact Nat.le_refl _, fun b _ _ => by rw [he], fun b h => .inl h, hk⟩
theorem HeapRel.heq {w' : World} (he : w'.heap = w.heap) (hh : HeapRel F ρ h w) : HeapRel F ρ h w' :=
  ⟨hh.wf, fun id hl => by
    obtain ⟨p, h1, h2⟩ := hh.rel id hl
    exact ⟨p, h1, BlkRel.world he h2⟩, hh.inj, fun b hb => by rw [he]; exact hh.low b hb, hh.out⟩

theorem srcInts_ok' (hh : HeapRel F ρ h w) {x : V} {vx : Value} {k : IntKind} {s : Nat} {l : List Int} {tc : List Nat} (hs : 0 < s) (hx : Rel ρ (av F (liveM ρ h)) w x vx) (hr : srcInts h k s x = some (l, tc)) :
    ∃ n, (Builtin.lenOf vx).run P w = .ok n w ∧ l.length = n * s ∧ ∀ w' : World, w'.heap = w.heap → (Builtin.firstCells s n vx).run P w' = .ok (l.map (Value.int k)).toArray w' := by
  obtain ⟨n, h1, h2, _⟩ := srcInts_ok (P := P) hh hs hx hr
  refine ⟨n, h1, h2, fun w' he => ?_⟩
  obtain ⟨n2, h3, h4, h5⟩ := srcInts_ok (P := P) (hh.heq he) hs (Rel.world he _ _ hx) hr
  have : n2 = n := Nat.eq_of_mul_eq_mul_right hs (by omega)
  subst this
  have := h5 n2 (Nat.le_refl _)
  rwa [List.take_of_length_le (by omega)] at this

theorem srcVals_ok' (hh : HeapRel F ρ h w) {x : V} {vx : Value} {s : Nat} {l : List V} {tc : List Nat} (hs : 0 < s) (hx : Rel ρ (av F (liveM ρ h)) w x vx) (hr : srcVals h s x = some (l, tc)) :
    ∃ n cs, (Builtin.lenOf vx).run P w = .ok n w ∧ l.length = n * s ∧ RelL ρ (av F (liveM ρ h)) w l cs ∧ (∀ v ∈ cs, v.oneCell' = true) ∧ ∀ w' : World, w'.heap = w.heap → (Builtin.firstCells s n vx).run P w' = .ok cs.toArray w' := by
  unfold srcVals at hr
  split at hr
  · simp only [Option.some.injEq, Prod.mk.injEq] at hr
    obtain ⟨rfl, _⟩ := hr
    have := hx.c; subst this
    exact ⟨0, [], by simp [Builtin.lenOf], by simp, by simp [RelL], by simp, fun w' _ => by simp [Builtin.firstCells]⟩
  · split at hr
    · rename_i s' l' t' hrow
      obtain ⟨hk, hr⟩ := cond_some hr
      obtain ⟨hk1, hk2⟩ := two_true hk
      have hk1 := beq_eq hk1
      simp only [Option.some.injEq, Prod.mk.injEq] at hr
      obtain ⟨rfl, _⟩ := hr
      subst hk1
      obtain ⟨_, a, len, cap, cs, rfl, h2, h3, h4, h5⟩ := rowV_ok hh hx hrow
      have hlen := h4.length
      refine ⟨len, cs, by simp [Builtin.lenOf], h2, h4, RelL.oneCell h4 hk2, fun w' he => run_firstCells (by omega) ?_ ?_⟩
      · rcases h5 with h5 | ⟨b, o, h5, h6⟩
        · left; subst h5; simp at hlen; exact List.length_eq_zero_iff.mp hlen.symm
        · right; exact ⟨b, o, h5, fun j hj => by rw [cell_same (w := w) (w' := w') (by rw [he])]; exact h6 j (by omega)⟩
      · intro ha
        rcases h5 with h5 | ⟨b, o, h5, h6⟩
        · subst h5; simp at hlen; exact List.length_eq_zero_iff.mp hlen.symm
        · rw [ha] at h5; cases h5
    · cases hr

/-- What append asks of its right-hand side. -/
structure Src (P : Program) (w : World) (s m : Nat) (vx : Value) (us : List Value) : Prop where
  len : (Builtin.lenOf vx).run P w = .ok m w
  size : us.length = m * s
  one : ∀ v ∈ us, v.oneCell' = true
  cells : ∀ w' : World, w'.heap = w.heap → (Builtin.firstCells s m vx).run P w' = .ok us.toArray w'

/-- append's types. -/
structure AppT (P : Program) (ts : Array TypeId) (e : Nat) (te : TI) : Prop where
  t : ∃ t, ts[0]? = some t ∧ P.underlying t = some (.slice e)
  t2 : ∃ t2 d2, ts[1]? = some t2 ∧ P.underlying t2 = some d2 ∧ ((∃ x, d2 = .slice x) ∨ d2 = .string)
  e : TyOK1 P e te
  bytes : 0 < te.bytes
  size : 0 < te.size

theorem append_nil (ht : AppT P ts e te) (t' : TypeId) (hh : HeapRel F ρ h w) (hn : ρ nid = none) {vx : Value} {m : Nat} {us : List Value} (hs : Src P w te.size m vx us) (hroom : roomy m te.bytes = true) {x : Blk}
    (hx0 : us = [] → (∃ k, x = .ints k []) ∨ x = .vals []) (hx : ∀ c : Array Value, us.length ≤ c.size → (∀ j, j < us.length → c[j]? = us[j]?) → Holds ρ (av F (liveM ρ h)) w us.length c x) :
    ∃ v w' ρ', (Builtin.append_ ts t' #[.slice none 0 0, vx]).run P w = .ok v w' ∧ Sub ρ ρ' ∧ (∀ id, id ≠ nid → ρ' id = ρ id) ∧ HeapRel F ρ' (setH h nid x) w' ∧ Rel ρ' (av F (liveM ρ' (setH h nid x))) w' (.sw nid te.size) v ∧ Ext (liveM ρ h) w (liveM ρ' (setH h nid x)) w' := by
  obtain ⟨t, ts0, hu⟩ := ht.t
  obtain ⟨t2, d2, ts1, hd2, hd2i⟩ := ht.t2
  by_cases hm : m = 0
  · subst hm
    have husz := hs.size
    simp at husz
    have := run_append_in (P := P) (w := w) t' hu ht.e ts0 ts1 hd2 hd2i (base := none) (n := 0) (cap := 0) hs.len (hs.cells w rfl) (by omega)
    obtain ⟨h1, h2⟩ := HeapRel.virtual hh hn (hx0 husz)
    refine ⟨_, w, _, this, setR_sub hn, fun id hid => by simp [setR, hid], h1, ?_, h2⟩
    simp only [Rel]
    exact ⟨ht.size, .inr ⟨by simp [setR], by first | trivial | rfl⟩⟩
  · obtain ⟨nc, w', zs, r1, r2, r3, r4⟩ := run_append_grow (P := P) (w := w) t' hu ht.e ts0 ts1 hd2 hd2i ht.bytes (base := none) (n := 0) (cap := 0) (os := []) hs.len hs.cells (fun w' _ => by simp [Builtin.firstCells]) (by omega) (by simpa using hroom)
    have hus := hs.size
    have hsz : (([] : List Value).toArray ++ us.toArray ++ zs : Array Value).size = nc * te.size := by
      simp only [Array.size_append, List.size_toArray, List.length_nil, hus, r2, Nat.zero_add, ← Nat.add_mul]
      congr 1; omega
    have hle : m * te.size ≤ nc * te.size := Nat.mul_le_mul_right _ (by omega)
    obtain ⟨q1, q2⟩ := HeapRel.alloc (fr := (0, 0)) hh hn (fun i _ => by dsimp only; omega) (hx (([] : List Value).toArray ++ us.toArray ++ zs) (by rw [hsz]; omega) (fun j hj => by
      have e0 : (([] : List Value).toArray ++ us.toArray ++ zs : Array Value) = us.toArray ++ zs := by simp
      rw [e0, Array.getElem?_append_left (by simpa using hj)]; simp)) r3.2 r3.1
    refine ⟨_, w', _, r4, setR_sub hn, fun id hid => by simp [setR, hid], q1, ?_, q2⟩
    simp only [Rel]
    refine ⟨ht.size, .inl ⟨w.heap.size, us.length, (([] : List Value).toArray ++ us.toArray ++ zs : Array Value).size, nc, by simp only [setR, if_true], by rw [hus]; exact Nat.mul_mod_left _ _, by rw [hus, div_of_mul ht.size]; omega, by rw [hsz]; exact Nat.le_refl _, ?_⟩⟩
    rw [hus, div_of_mul ht.size, Nat.zero_add]

theorem append_row (ht : AppT P ts e te) (t' : TypeId) (hh : HeapRel F ρ h w) (hn : ρ nid = none) {vx : Value} {m : Nat} {us : List Value} (hs : Src P w te.size m vx us) {id b n C cap : Nat} {c : Array Value} (hl : (h id).live) (hp : ρ id = some ⟨some b, n, C⟩)
    (hmod : n % te.size = 0) (hcap : n / te.size ≤ cap) (hC : cap * te.size ≤ C) (ho : Own w b C c) (hcC : c.size = C) (hnC : n ≤ C) (hroom : roomy (n / te.size + m) te.bytes = true) {x : Blk}
    (hx : ∀ c' : Array Value, n + us.length ≤ c'.size → (∀ j, j < n → c'[j]? = c[j]?) → (∀ j, j < us.length → c'[n + j]? = us[j]?) → Holds ρ (av F (liveM ρ h)) w (n + us.length) c' x) :
    ∃ v w' ρ', (Builtin.append_ ts t' #[.slice (some ⟨b, 0, none⟩) (n / te.size) cap, vx]).run P w = .ok v w' ∧ Sub ρ ρ' ∧ (∀ id, id ≠ nid → ρ' id = ρ id) ∧ HeapRel F ρ' (setH (setH h id .dead) nid x) w' ∧ Rel ρ' (av F (liveM ρ' (setH (setH h id .dead) nid x))) w' (.sw nid te.size) v ∧ Ext (liveM ρ h) w (liveM ρ' (setH (setH h id .dead) nid x)) w' := by
  obtain ⟨t, ts0, hu⟩ := ht.t
  obtain ⟨t2, d2, ts1, hd2, hd2i⟩ := ht.t2
  have hns : n / te.size * te.size = n := Nat.div_mul_cancel (Nat.dvd_of_mod_eq_zero hmod)
  have hus := hs.size
  have hsum : (n / te.size + m) * te.size = n + us.length := by rw [Nat.add_mul, hns, hus]
  have hdiv : (n + us.length) / te.size = n / te.size + m := by rw [← hsum, div_of_mul ht.size]
  by_cases hle : n / te.size + m ≤ cap
  · have h1 := run_append_in (P := P) (w := w) t' hu ht.e ts0 ts1 hd2 hd2i (base := some ⟨b, 0, none⟩) (n := n / te.size) (cap := cap) hs.len (hs.cells w rfl) hle
    have hroomC : n + us.length ≤ C := by
      have : (n / te.size + m) * te.size ≤ cap * te.size := Nat.mul_le_mul_right _ hle
      omega
    obtain ⟨w', c', r1, r2, r3, r4, r5, r6⟩ := run_storeCells (P := P) (b := b) us w n 0 C c ho (by omega) hs.one
    subst hcC
    rw [← r5] at r4 hp
    obtain ⟨q1, q2⟩ := HeapRel.retake hh hn hl hp r2 r3 r4 (hx c' (by omega) (fun j hj => by rw [r6 j, if_neg (by omega)]) (fun j hj => by rw [r6 (n + j), if_pos (by omega)]; congr 1; omega))
    refine ⟨.slice (some ⟨b, 0, none⟩) (n / te.size + m) cap, w', setR ρ nid ⟨some b, n + us.length, c'.size⟩, ?_, setR_sub hn, fun id hid => by simp [setR, hid], q1, ?_, q2⟩
    · rw [h1]
      simp only [addr_add, Nat.zero_add, hns, r1, Result.andThen_ok]
    · simp only [Rel]
      refine ⟨ht.size, .inl ⟨b, n + us.length, c'.size, cap, by simp only [setR, if_true], by rw [← hsum]; exact Nat.mul_mod_left _ _, by rw [hdiv]; exact hle, by omega, by rw [hdiv]⟩⟩
  · have hos : ∀ w' : World, w'.heap = w.heap → (Builtin.firstCells te.size (n / te.size) (.slice (some ⟨b, 0, none⟩) (n / te.size) cap)).run P w' = .ok (c.toList.take n).toArray w' := by
      intro w' he
      refine run_firstCells (by simp; omega) (.inr ⟨b, 0, rfl, fun j hj => ?_⟩) (fun h => by cases h)
      rw [cell_same (w := w) (w' := w') (by rw [he]), Nat.zero_add, ho.cell]
      simp at hj
      rw [List.getElem?_take_of_lt (by omega)]; simp
    obtain ⟨nc, w', zs, r1, r2, r3, r4⟩ := run_append_grow (P := P) (w := w) t' hu ht.e ts0 ts1 hd2 hd2i ht.bytes (base := some ⟨b, 0, none⟩) (n := n / te.size) (cap := cap) hs.len hs.cells hos (by omega) hroom
    have hsz : ((c.toList.take n).toArray ++ us.toArray ++ zs : Array Value).size = nc * te.size := by
      have h1 : (c.toList.take n).length = n := by simp; omega
      have h2 : (nc - (n / te.size + m)) * te.size + (n / te.size + m) * te.size = nc * te.size := by rw [← Nat.add_mul]; congr 1; omega
      simp only [Array.size_append, List.size_toArray, h1, r2]
      omega
    have hle2 : n + us.length ≤ nc * te.size := by rw [← hsum]; exact Nat.mul_le_mul_right _ r1
    obtain ⟨k1, k2⟩ := hh.kill id
    have hx' := hx ((c.toList.take n).toArray ++ us.toArray ++ zs) (by rw [hsz]; exact hle2) (fun j hj => by
        rw [Array.append_assoc, Array.getElem?_append_left (by simp; omega)]
        simp [List.getElem?_take_of_lt hj]) (fun j hj => by
        have h1 : (c.toList.take n).length = n := by simp; omega
        rw [Array.append_assoc, Array.getElem?_append_right (by simp; omega), Array.getElem?_append_left (by simp; omega)]
        simp only [List.size_toArray, h1, List.getElem?_toArray]
        congr 1; omega)
    obtain ⟨q1, q2⟩ := HeapRel.alloc (fr := (0, 0)) k1 hn (fun i _ => by dsimp only; omega) (hx'.mono (Sub.refl _) k2) r3.2 r3.1
    refine ⟨_, w', _, r4, setR_sub hn, fun id hid => by simp [setR, hid], q1, ?_, k2.trans q2⟩
    simp only [Rel]
    refine ⟨ht.size, .inl ⟨w.heap.size, n + us.length, ((c.toList.take n).toArray ++ us.toArray ++ zs : Array Value).size, nc, by simp only [setR, if_true], by rw [← hsum]; exact Nat.mul_mod_left _ _, by rw [hdiv]; exact r1, by rw [hsz]; exact Nat.le_refl _, by rw [hdiv]⟩⟩

end
end Go.Proofs.Ytnjlpjdncejfcaa.Ev
