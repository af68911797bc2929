/-
  The evaluator's steps and regions are sound. (A text of ours; no condition.)
-/
import Derived.Test.YtnjlpjdncejfcaaEvCallOK
namespace Go.Proofs.Ytnjlpjdncejfcaa.Ev
set_option linter.unusedVariables false
set_option linter.unusedSimpArgs false

structure EnvOK (P : Program) (E : Env) : Prop where
  ty : TyOK P E.ty
  tab : TabOK P E.tab

/-- A state reads so in a frame and a world. -/
structure Rep (E : Env) (F : Nat → Prop) (ρ : Rho) (T : Nat → V) (h : Nat → Blk) (a : Act) (w : World) : Prop where
  heap : HeapRel F ρ h w
  tmps : ∀ t, Rel ρ (av F (liveM ρ h)) w (T t) (a.eval (.tmp t))
  size : a.tmps.size = E.ntmps
  defers : a.defers = []

theorem vconst_ok {ρ : Rho} {M : Nat → Prop} {w : World} (v : Value) : Rel ρ M w (vconst v) v := by
  unfold vconst
  split
  · rename_i cs
    simp only [Rel]
    refine ⟨cs, rfl, ?_⟩
    generalize cs.toList = l
    induction l with
    | nil => simp [RelL]
    | cons x l ih => simp only [List.map_cons, RelL, Rel]; exact ⟨trivial, ih⟩
  · simp only [Rel]

section
variable {P : Program} {E : Env} {F : Nat → Prop} {ρ : Rho} {T : Nat → V} {h : Nat → Blk} {a : Act} {w : World}

theorem Rep.ev (hr : Rep E F ρ T h a w) (x : Operand) : Rel ρ (av F (liveM ρ h)) w (evF T x) (a.eval x) := by
  cases x with
  | tmp t => exact hr.tmps t
  | const v => exact vconst_ok v
  | global g => simp only [evF, Rel]
  | func f => simp only [evF, Rel, Act.eval]; exact ⟨#[], #[], rfl, by simp [RelL], by simp [RelL]⟩

theorem Rep.put {ρ' : Rho} {h' : Nat → Blk} {w' : World} (hr : Rep E F ρ T h a w) (hs : Sub ρ ρ') (hh : HeapRel F ρ' h' w') (he : Ext (liveM ρ h) w (liveM ρ' h') w') {d : Option Nat} (hd : dstOk E.ntmps d = true) {x : V} {v : Value} (hx : Rel ρ' (av F (liveM ρ' h')) w' x v) :
    Rep E F ρ' (putF T d x) h' (a.put d v) w' := by
  have hm : ∀ t, Rel ρ' (av F (liveM ρ' h')) w' (T t) (a.eval (.tmp t)) := fun t => Rel.mono hs he _ _ (hr.tmps t)
  cases d with
  | none => exact ⟨hh, hm, hr.size, hr.defers⟩
  | some d =>
    have hlt : d < a.tmps.size := by rw [hr.size]; exact blt_lt hd
    refine ⟨hh, fun t => ?_, by simp [Act.put, hr.size], hr.defers⟩
    simp only [putF, Act.put, Act.eval]
    by_cases ht : t = d
    · subst ht
      rw [if_pos rfl, Array.getD_eq_getD_getElem?, Array.getElem?_setIfInBounds_self_of_lt hlt]
      exact hx
    · rw [if_neg ht, Array.getD_eq_getD_getElem?, Array.getElem?_setIfInBounds_ne (Ne.symm ht), ← Array.getD_eq_getD_getElem?]
      exact hm t

theorem want_ok {all : Array Oper} (hr : Rep E F ρ T h a w) {o : Oper} {b : Bool} (hw : wantF all.toList T o = some b) : Region.wanted o (yielded all a.tmps) = b := by
  unfold wantF at hw
  unfold Region.wanted
  cases hg : o.guard with
  | none => rw [hg] at hw; simp only [Option.some.injEq] at hw; exact hw
  | some gw =>
    obtain ⟨j, want⟩ := gw
    rw [hg] at hw
    dsimp only at hw ⊢
    unfold yielded
    rw [Array.getElem?_toList] at hw
    cases hd : (all[j]?).bind (·.dst) with
    | none => rw [hd] at hw; cases hw
    | some g =>
      rw [hd] at hw
      dsimp only at hw
      have hv := hr.tmps g
      simp only [Option.bind_some]
      split at hw
      · rename_i b' hb
        rw [hb] at hv
        simp only [Rel, Act.eval] at hv
        simp only [Option.some.injEq] at hw
        rw [Array.getD_eq_getD_getElem?] at hv
        cases ht : a.tmps[g]? with
        | none => rw [ht] at hv; cases hv
        | some u =>
          rw [ht] at hv
          simp only [Option.getD_some] at hv
          subst hv
          rw [← hw]
          cases b' <;> cases want <;> rfl
      · rename_i vs hb
        rw [hb] at hv
        simp only [Rel, Act.eval] at hv
        simp only [Option.some.injEq] at hw
        rw [Array.getD_eq_getD_getElem?] at hv
        rw [← hw]
        cases ht : a.tmps[g]? with
        | none => rfl
        | some u =>
          rw [ht] at hv
          simp only [Option.getD_some] at hv
          subst hv
          rfl
      · cases hw

theorem RelL.map_evF {xs : List Operand} (hr : Rep E F ρ T h a w) : RelL ρ (av F (liveM ρ h)) w (xs.map (evF T)) (xs.map a.eval) := by
  induction xs with
  | nil => simp [RelL]
  | cons x xs ih => simp only [List.map_cons, RelL]; exact ⟨hr.ev x, ih⟩

theorem run_call {o : Oper} {f : Operand} {args : Array Operand} {ts : Array TypeId} {g : FuncId} {va vc : Array Value} (ho : o.op = .call ⟨.value f, args, ts⟩) (hf : a.eval f = .func (.func g) va vc) (hc : Callable P g) :
    (execOp a.eval o).run P w = .ok (.enter g (va ++ args.map a.eval ++ vc)) w := by
  obtain ⟨fn, h1, h2, h3⟩ := hc
  have h4 : fn.name ≠ "runtime.NumGoroutine" := by simpa using h3
  cases hb : fn.body with
  | none => rw [hb] at h2; cases h2
  | some c =>
    unfold execOp
    rw [ho]
    simp [resolve, Deferred.ofValue, hf, invoke, callFunc, h1, h4, hb]

/-- What is left of a region holds in the frame and the world. -/
def RegI (E : Env) (F : Nat → Prop) (len base : Nat) (ρ0 : Rho) (M0 : Nat → Prop) (w0 : World) (T : Nat → V) (h : Nat → Blk) (rem : List Item) (a : Act) (w : World) : Prop :=
  ∃ ρ, Rep E F ρ T h a w ∧ (∀ x ∈ rem, ∀ id, x.nid ≤ id → id < x.nid + room E.tab x.o.op → ρ id = none) ∧ rem.Pairwise (fun x y => x.nid + room E.tab x.o.op ≤ y.nid) ∧
    (∀ id, len ≤ id → ρ id = none) ∧ (∀ id, id < base → ρ id = ρ0 id) ∧ (∀ x ∈ rem, base ≤ x.nid) ∧ Ext M0 w0 (liveM ρ h) w

theorem RegI.next {len base : Nat} {ρ0 : Rho} {M0 : Nat → Prop} {w0 : World} {pre post : List Item} {x : Item} (hr : Rep E F ρ T h a w)
    (h1 : ∀ y ∈ pre ++ x :: post, ∀ id, y.nid ≤ id → id < y.nid + room E.tab y.o.op → ρ id = none) (h2 : (pre ++ x :: post).Pairwise (fun x y => x.nid + room E.tab x.o.op ≤ y.nid))
    (h3 : ∀ id, len ≤ id → ρ id = none) (h4 : ∀ id, id < base → ρ id = ρ0 id) (h5 : ∀ y ∈ pre ++ x :: post, base ≤ y.nid) (h6 : Ext M0 w0 (liveM ρ h) w)
    (hd : dstOk E.ntmps x.o.dst = true) {out : Out} (hn : out.new.length ≤ room E.tab x.o.op) (hl : x.nid + room E.tab x.o.op ≤ len) {v : Value} {w' : World} {ρ' : Rho} (hp : Post F ρ h w x.nid out v w' ρ') :
    RegI E F len base ρ0 M0 w0 (putF T x.o.dst out.val) (updW h (out.wr ++ newL x.nid out.new)) (pre ++ post) (a.put x.o.dst v) w' := by
  obtain ⟨p1, p2, p3, p4, p5⟩ := hp
  rw [outH_eq] at p3 p4 p5
  rw [List.pairwise_append] at h2
  obtain ⟨q1, q2, q3⟩ := h2
  rw [List.pairwise_cons] at q2
  refine ⟨ρ', hr.put p1 p3 p5 hd p4, ?_, ?_, ?_, ?_, ?_, h6.trans p5⟩
  · intro y hy id k1 k2
    rcases List.mem_append.mp hy with hy | hy
    · have := q3 y hy x (by simp)
      rw [p2 id (by omega)]
      exact h1 y (by simp [hy]) id k1 k2
    · have := q2.1 y hy
      rw [p2 id (by omega)]
      exact h1 y (by simp [hy]) id k1 k2
  · rw [List.pairwise_append]
    exact ⟨q1, q2.2, fun y hy z hz => q3 y hy z (by simp [hz])⟩
  · intro id hid
    rw [p2 id (by omega)]; exact h3 id hid
  · intro id hid
    have := h5 x (by simp)
    rw [p2 id (by omega)]; exact h4 id hid
  · intro y hy
    refine h5 y ?_
    simp only [List.mem_append, List.mem_cons] at hy ⊢
    rcases hy with hy | hy <;> simp [hy]

theorem step_ok (hE : EnvOK P E) {ops : Array Oper} {Q : Exit → Act → World → Prop} {len base : Nat} {ρ0 : Rho} {M0 : Nat → Prop} {w0 : World} {pre post : List Item} {x : Item} {r : Row} {K : Act → World → Prop}
    (hc : CoreR E ops.toList len x T h r) (hI : RegI E F len base ρ0 M0 w0 T h (pre ++ x :: post) a w) (hx : ops[x.i]? = some x.o)
    (hK : ∀ a' w', RegI E F len base ρ0 M0 w0 (putF T x.o.dst r.v) (updW h r.ups) (pre ++ post) a' w' → K a' w') : wpOp P ops Q x.i K a w := by
  obtain ⟨ρ, hr, h1, h2, h3, h4, h5, h6⟩ := hI
  obtain ⟨c1, hd, ⟨hw, out, hex, rfl, hn, hl, _⟩ | ⟨hw, rfl⟩⟩ := hc
  · unfold wpOp
    rw [hx]
    dsimp only
    rw [want_ok hr hw, if_pos rfl]
    refine .inl ?_
    unfold Oper.wp
    have hslot : ∀ id, x.nid ≤ id → id < x.nid + out.new.length → ρ id = none := fun id k1 k2 => h1 x (by simp) id k1 (by omega)
    rcases hex with ⟨f, args, ts, g, first, cap, e1, e2, e3⟩ | hact
    · have hf := hr.ev f
      rw [e2] at hf
      simp only [Rel] at hf
      obtain ⟨va, vc, f1, f2, f3⟩ := hf
      have hargs : RelL ρ (av F (liveM ρ h)) w (first ++ (args.toList.map (evF T) ++ cap)) (va.toList ++ (args.toList.map a.eval ++ vc.toList)) :=
        f2.append ((RelL.map_evF hr).append f3)
      obtain ⟨hcal, hcalls⟩ := call_ok hE.tab hr.heap e3 hslot hargs
      rw [run_call e1 f1 hcal, Oper.upon_enter]
      have hav : (va ++ args.map a.eval ++ vc) = (va.toList ++ (args.toList.map a.eval ++ vc.toList)).toArray := by
        apply Array.toList_inj.mp; simp
      rw [hav]
      refine Calls.mono hcalls ?_
      rintro e w' ⟨v', ρ', rfl, hp⟩
      exact hK _ _ (RegI.next hr h1 h2 h3 h4 h5 h6 hd hn hl hp)
    · obtain ⟨v, w', ρ', hrun, p⟩ := act_ok (P := P) hE.ty hr.heap hr.ev hslot x.o.op x.o rfl hact
      rcases hrun with hrun | ⟨hrun, rfl⟩
      · rw [hrun, Oper.upon_value]
        exact hK _ _ (RegI.next hr h1 h2 h3 h4 h5 h6 hd hn hl p)
      · rw [hrun, Oper.upon_skip]
        exact hK _ _ (RegI.next hr h1 h2 h3 h4 h5 h6 hd hn hl p)
  · unfold wpOp
    rw [hx]
    dsimp only
    rw [want_ok hr hw]
    simp only [Bool.false_eq_true, if_false]
    refine hK _ _ ⟨ρ, hr.put (Sub.refl _) hr.heap (Ext.refl _ _) hd (by simp only [undefV, Rel]; rfl), ?_, ?_, h3, h4, ?_, h6⟩
    · intro y hy; refine h1 y ?_; simp only [List.mem_append, List.mem_cons] at hy ⊢; rcases hy with hy | hy <;> simp [hy]
    · exact h2.sublist (List.Sublist.append_left (List.sublist_cons_self _ _) _)
    · intro y hy; refine h5 y ?_; simp only [List.mem_append, List.mem_cons] at hy ⊢; rcases hy with hy | hy <;> simp [hy]

theorem items_i (tab : Nat → Option Entry) : ∀ (ops : List Oper) (i nid : Nat), (items tab i nid ops).map (·.i) = (List.range ops.length).map (i + ·)
  | [], _, _ => rfl
  | o :: r, i, nid => by
    simp only [items, List.map_cons, List.length_cons, List.range_succ_eq_map, List.map_map, items_i tab r]
    simp [Function.comp_def, Nat.add_assoc, Nat.add_comm 1]

theorem items_o (tab : Nat → Option Entry) : ∀ (ops : List Oper) (i nid : Nat), ∀ x ∈ items tab i nid ops, i ≤ x.i ∧ ops[x.i - i]? = some x.o
  | [], _, _, x, hx => by simp [items] at hx
  | o :: r, i, nid, x, hx => by
    simp only [items, List.mem_cons] at hx
    rcases hx with rfl | hx
    · simp
    · obtain ⟨h1, h2⟩ := items_o tab r _ _ x hx
      refine ⟨by omega, ?_⟩
      have : x.i - i = (x.i - (i + 1)) + 1 := by omega
      rw [this]; simpa using h2

theorem items_nid (tab : Nat → Option Entry) : ∀ (ops : List Oper) (i nid : Nat), (∀ x ∈ items tab i nid ops, nid ≤ x.nid) ∧ (items tab i nid ops).Pairwise (fun x y => x.nid + room tab x.o.op ≤ y.nid)
  | [], _, _ => ⟨by simp [items], by simp [items]⟩
  | o :: r, i, nid => by
    obtain ⟨h1, h2⟩ := items_nid tab r (i + 1) (nid + room tab o.op)
    simp only [items]
    refine ⟨fun x hx => ?_, List.pairwise_cons.mpr ⟨fun y hy => h1 y hy, h2⟩⟩
    rcases List.mem_cons.mp hx with rfl | hx
    · exact Nat.le_refl _
    · exact Nat.le_trans (Nat.le_add_right _ _) (h1 x hx)

theorem Rep.heq {w' : World} (hr : Rep E F ρ T h a w) (he : w'.heap = w.heap) : Rep E F ρ T h a w' :=
  ⟨hr.heap.heq he, fun t => Rel.world he _ _ (hr.tmps t), hr.size, hr.defers⟩

theorem Trp.rows {len : Nat} {all : List Oper} : ∀ (L : List (Item × Row)) (T : Nat → V) (h : Nat → Blk) {T' : Nat → V} {h' : Nat → Blk}, Trp E all len L T h T' h' → ∀ p ∈ L, p.2.i = p.1.i
  | [], _, _, _, _, _, p, hp => by simp at hp
  | q :: L, T, h, _, _, ht, p, hp => by
    rcases List.mem_cons.mp hp with rfl | hp
    · exact ht.1.1
    · exact Trp.rows L _ _ ht.2 p hp

theorem blkAt_dead (H : List Blk) (n : Nat) : blkAt (H ++ List.replicate n .dead) = blkAt H := by
  funext j
  rw [blkAt_getD, blkAt_getD]
  simp only [List.getD_eq_getElem?_getD, List.getElem?_append, List.getElem?_replicate]
  by_cases hj : j < H.length
  · rw [if_pos hj]
  · rw [if_neg hj, List.getElem?_eq_none (by omega)]; split <;> rfl

/-- A region. -/
theorem region_ok (hE : EnvOK P E) (hmix : P.follows .mixedOrders = true) {id : Nat} {ops : Array Oper} {draw : Bool} {s : St} {R : Type} {k : St → Option R} {r : R} (hr : evRegion E ops draw s k = some r) :
    ∃ s', k s' = some r ∧ s.H.length ≤ s'.H.length ∧ ∀ F ρ a w Q, Rep E F ρ (look s.T) (blkAt s.H) a w → (∀ j, s.H.length ≤ j → ρ j = none) →
      (∀ ρ' a' w', Rep E F ρ' (look s'.T) (blkAt s'.H) a' w' → (∀ j, s'.H.length ≤ j → ρ' j = none) → (∀ j, j < s.H.length → ρ' j = ρ j) → Ext (liveM ρ (blkAt s.H)) w (liveM ρ' (blkAt s'.H)) w' → Q .normal a' w') →
      (Code.region id ops draw).wp P Q a w := by
  unfold evRegion at hr
  obtain ⟨rs, T', H', ht, hlen, hk⟩ := evOps_some _ _ _ _ _ _ hr
  obtain ⟨hok, hk⟩ := cond_some hk
  rw [blkAt_dead] at ht
  obtain ⟨L, l1, l2, l3⟩ := ht.pairs
  simp only [List.length_append, List.length_replicate] at hlen l3
  refine ⟨⟨T', H'⟩, hk, by dsimp only; omega, ?_⟩
  intro F ρ a w Q hrep hnone hQ
  obtain ⟨n1, n2⟩ := items_nid E.tab ops.toList 0 s.H.length
  have ho : ∀ p ∈ L, ops[p.1.i]? = some p.1.o := by
    intro p hp
    have hm : p.1 ∈ items E.tab 0 s.H.length ops.toList := by rw [← l1]; exact List.mem_map_of_mem hp
    have := (items_o _ _ _ _ _ hm).2
    simpa using this
  have hI : ∀ w2 : World, w2.heap = w.heap → Keeps w w2 → RegI E F (s.H.length + roomOps E.tab ops.toList) s.H.length ρ (liveM ρ (blkAt s.H)) w (look s.T) (blkAt s.H) (L.map (·.1)) a w2 := by
    intro w2 hw2 hk2
    rw [l1]
    exact ⟨ρ, hrep.heq hw2, fun x hx id h1 h2 => hnone id (Nat.le_trans (n1 x hx) h1), n2, fun id hid => hnone id (by omega), fun _ _ => rfl, n1, Ext.heq hw2 hk2⟩
  have hfin : ∀ a' w', RegI E F (s.H.length + roomOps E.tab ops.toList) s.H.length ρ (liveM ρ (blkAt s.H)) w (look T') (blkAt H') [] a' w' → Q .normal a' w' := by
    rintro a' w' ⟨ρ', r1, _, _, r2, r3, _, r4⟩
    exact hQ ρ' a' w' r1 (fun j hj => r2 j (by dsimp only at hj; omega)) r3 r4
  have hmi : L.map (·.1.i) = List.range ops.size := by
    have : L.map (·.1.i) = (L.map (·.1)).map (·.i) := by simp [List.map_map, Function.comp_def]
    rw [this, l1, items_i]; simp
  cases draw with
  | false =>
    refine wp_region ?_
    rw [← hmi]
    exact wpOps_of (RegI E F _ s.H.length ρ (liveM ρ (blkAt s.H)) w) (fun T h pre x post r a w K hc hI hx hK => step_ok hE hc hI hx hK) hfin L _ _ a w l3 (hI w rfl (.refl _)) ho
  | true =>
    simp only [Bool.not_true, Bool.false_or, Bool.and_eq_true] at hok
    obtain ⟨⟨k1, k2⟩, k3⟩ := hok
    refine wp_region_any hmix ?_
    refine wpAny_of (RegI E F _ s.H.length ρ (liveM ρ (blkAt s.H)) w) (fun T h pre x post r a w K hc hI hx hK => step_ok hE hc hI hx hK) k1 hfin ops.size _ L _ _ a _ l3 (hI _ rfl ⟨rfl, rfl, rfl⟩) ?_ (by simp) ?_ ho (l3.rows) ?_ ?_
    · have := congrArg List.length hmi; simp at this; omega
    · rw [hmi]; symm; rw [List.filter_eq_self]
      intro i hi
      simp only [List.mem_range] at hi
      simp [Array.getD_eq_getD_getElem?, hi]
    · have hp := okDraw_pairwise _ k3
      rw [List.append_nil, List.pairwise_reverse, ← l2, List.map_map, List.pairwise_map] at hp
      exact hp
    · intro j o hj
      rw [Array.getD_eq_getD_getElem?] at hj
      simp [Array.getElem?_replicate] at hj
      split at hj <;> simp_all

end
end Go.Proofs.Ytnjlpjdncejfcaa.Ev
