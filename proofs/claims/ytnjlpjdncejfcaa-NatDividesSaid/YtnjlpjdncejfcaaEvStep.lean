/-
  The evaluator's operations as steps between states; steps that change places. (A text of ours; no condition.)
-/
import Derived.Test.YtnjlpjdncejfcaaEvCong
namespace Go.Proofs.Ytnjlpjdncejfcaa.Ev
set_option linter.unusedVariables false
set_option linter.unusedSimpArgs false

/- Calls -/

theorem Alt.go_pick {R : Type} (k : V → List Blk → Option R) : ∀ a : Alt, a.go k = k a.pick.1 a.pick.2
  | .one _ _ => rfl
  | .two true _ _ _ _ => rfl
  | .two false _ _ _ _ => rfl

def CallR (tab : Nat → Option Entry) (nid f : Nat) (args : List V) (h : Nat → Blk) (out : Out) : Prop :=
  ∃ e at_ σ enc a, tab f = some e ∧ immArgs h e.imm args = at_ ∧ reach h 3 (addNew [] (refsL at_.1)) = σ ∧
    e.dec (renL (place · σ 0) at_.1) (σ.map fun i => renB (place · σ 0) (h i)) = some (some a, enc) ∧
    (enc a).pick.2.length ≤ σ.length + e.fresh ∧ σ.length ≤ (enc a).pick.2.length ∧ nodup σ = true ∧ meets σ at_.2 = false ∧ out = calleeOut σ at_.2 nid (enc a).pick.1 (enc a).pick.2

theorem callK_some {R : Type} {tab : Nat → Option Entry} {nid f : Nat} {args : List V} {h : Nat → Blk} {k : Out → Option R} {r : R}
    (hr : callK tab nid f args h k = some r) : ∃ out, CallR tab nid f args h out ∧ k out = some r := by
  unfold callK at hr
  split at hr
  · cases hr
  · rename_i e he
    dsimp only at hr
    split at hr
    · cases hr
    · rename_i m enc hm
      cases m with
      | none => cases hr
      | some a =>
        dsimp only [Option.bind] at hr
        rw [Alt.go_pick] at hr
        obtain ⟨h1, h2⟩ := cond_some hr
        simp only [Bool.and_eq_true, Bool.not_eq_true'] at h1
        obtain ⟨⟨⟨h3, h4⟩, h5⟩, h6⟩ := h1
        exact ⟨_, ⟨e, _, _, enc, a, he, rfl, rfl, hm, ble_le h3, ble_le h4, h5, h6, rfl⟩, h2⟩

theorem addNew_sub {i : Nat} : ∀ (r σ : List Nat), i ∈ σ → i ∈ addNew σ r
  | [], σ, h => h
  | j :: r, σ, h => by
    unfold addNew
    cases hc : σ.any (Nat.beq j) <;> simp only [cond_false, cond_true]
    · exact addNew_sub r _ (by simp [h])
    · exact addNew_sub r _ h

theorem addNew_in {i : Nat} : ∀ (r σ : List Nat), i ∈ r → i ∈ addNew σ r
  | j :: r, σ, h => by
    unfold addNew
    cases hc : σ.any (Nat.beq j) <;> simp only [cond_false, cond_true]
    · rcases List.mem_cons.mp h with rfl | h
      · exact addNew_sub r _ (by simp)
      · exact addNew_in r _ h
    · rcases List.mem_cons.mp h with rfl | h
      · simp only [List.any_eq_true] at hc
        obtain ⟨x, hx, hb⟩ := hc
        have := beq_eq hb
        subst this
        exact addNew_sub r _ hx
      · exact addNew_in r _ h

theorem reach_sub {h : Nat → Blk} {i : Nat} : ∀ (n : Nat) (σ : List Nat), i ∈ σ → i ∈ reach h n σ
  | 0, σ, hi => hi
  | n + 1, σ, hi => reach_sub n _ (addNew_sub _ _ hi)

theorem reach_congr {h h' : Nat → Blk} : ∀ (n : Nat) (σ : List Nat), (∀ id ∈ reach h n σ, h' id = h id) → reach h' n σ = reach h n σ
  | 0, σ, _ => rfl
  | n + 1, σ, he => by
    unfold reach at he ⊢
    have h1 : (σ.flatMap fun i => refsB (h' i)) = σ.flatMap fun i => refsB (h i) := by
      have : ∀ i ∈ σ, refsB (h' i) = refsB (h i) := fun i hi => by rw [he i (reach_sub n _ (addNew_sub _ _ hi))]
      clear he
      induction σ with
      | nil => rfl
      | cons j σ ih => simp only [List.flatMap_cons]; rw [this j (by simp), ih (fun i hi => this i (by simp [hi]))]
    rw [h1]
    exact reach_congr n _ he

mutual
theorem immV_congr {h h' : Nat → Blk} : ∀ (v : V), (∀ id, id ∈ refs (immV h v).1 ∨ id ∈ (immV h v).2 → h' id = h id) → immV h' v = immV h v
  | .sw id w, he => by
    have : h' id = h id := by
      refine he id ?_
      unfold immV
      split
      · exact .inr (by simp)
      · exact .inl (by simp [refs])
    unfold immV; rw [this]
  | .sl id w off len, he => by
    have : h' id = h id := by
      refine he id ?_
      unfold immV
      split
      · exact .inr (by simp)
      · exact .inl (by simp [refs])
    unfold immV; rw [this]
  | .agg cs, he => by
    unfold immV at he ⊢
    rw [immL_congr cs (fun id hid => he id (by simpa [refs] using hid))]
  | .c _, _ => rfl
  | .poison, _ => rfl
  | .ptr _ _ _, _ => rfl
  | .il _ _ _, _ => rfl
  | .iv _ _, _ => rfl
  | .ilp _ _ _ _, _ => rfl
  | .ivp _ _ _ _, _ => rfl
  | .tup _, _ => rfl
  | .fn _ _ _, _ => rfl
theorem immL_congr {h h' : Nat → Blk} : ∀ (vs : List V), (∀ id, id ∈ refsL (immL h vs).1 ∨ id ∈ (immL h vs).2 → h' id = h id) → immL h' vs = immL h vs
  | [], _ => rfl
  | v :: r, he => by
    unfold immL at he ⊢
    rw [immV_congr v (fun id hid => he id (by simp only [refsL, List.mem_append]; rcases hid with h | h <;> simp [h])), immL_congr r (fun id hid => he id (by simp only [refsL, List.mem_append]; rcases hid with h | h <;> simp [h]))]
end

theorem immArgs_congr {h h' : Nat → Blk} : ∀ (bs : List Bool) (vs : List V), (∀ id, id ∈ refsL (immArgs h bs vs).1 ∨ id ∈ (immArgs h bs vs).2 → h' id = h id) → immArgs h' bs vs = immArgs h bs vs
  | [], vs, _ => by simp [immArgs]
  | true :: bs, [], _ => by simp [immArgs]
  | false :: bs, [], _ => by simp [immArgs]
  | true :: bs, v :: r, he => by
    unfold immArgs at he ⊢
    rw [immV_congr v (fun id hid => he id (by simp only [refsL, List.mem_append]; rcases hid with h | h <;> simp [h])), immArgs_congr bs r (fun id hid => he id (by simp only [refsL, List.mem_append]; rcases hid with h | h <;> simp [h]))]
  | false :: bs, v :: r, he => by
    unfold immArgs at he ⊢
    rw [immArgs_congr bs r (fun id hid => he id (by simp only [refsL, List.mem_append]; rcases hid with h | h <;> simp [h]))]

theorem CallR.congr_h {tab : Nat → Option Entry} {nid f : Nat} {args : List V} {h h' : Nat → Blk} {out : Out} (hc : CallR tab nid f args h out) (ht : ∀ id ∈ out.touch, h' id = h id) : CallR tab nid f args h' out := by
  obtain ⟨e, at_, σ, enc, a, h1, h2, h3, h4, h5, h6, h7, h8, h9⟩ := hc
  have ht' : ∀ id, id ∈ σ ∨ id ∈ at_.2 → h' id = h id := fun id hid => ht id (by subst h9; simpa [calleeOut] using hid)
  have hσ : ∀ id ∈ refsL at_.1, id ∈ σ := fun id hid => by subst h3; exact reach_sub _ _ (addNew_in _ _ hid)
  refine ⟨e, at_, σ, enc, a, h1, ?_, ?_, ?_, h5, h6, h7, h8, h9⟩
  · rw [immArgs_congr _ _ (fun id hid => ?_)]
    · exact h2
    · rw [h2] at hid
      exact ht' id (hid.imp (hσ id) (fun x => x))
  · rw [reach_congr _ _ (fun id hid => ht' id (.inl (h3 ▸ hid)))]
    exact h3
  · rw [List.map_congr_left (g := fun i => renB (place · σ 0) (h i)) (fun i hi => by rw [ht' i (.inl hi)])]
    exact h4

/- Operations -/

def evF (T : Nat → V) : Operand → V
  | .tmp t => T t
  | .const v => vconst v
  | .global _ => .poison
  | .func f => .fn f [] []

theorem evO_eq (T : List (Nat × V)) : evO T = evF (look T) := by funext x; cases x <;> rfl

def ExecR (E : Env) (nid : Nat) (o : Oper) (T : Nat → V) (h : Nat → Blk) (out : Out) : Prop :=
  (∃ f args ts g first cap, o.op = .call ⟨.value f, args, ts⟩ ∧ evF T f = .fn g first cap ∧ CallR E.tab nid g (first ++ (args.toList.map (evF T) ++ cap)) h out) ∨
  act E.ty nid o.op (evF T) h = some (true, out)

theorem evExec_some {R : Type} {E : Env} {nid : Nat} {o : Oper} {T : List (Nat × V)} {h : Nat → Blk} {k : Out → Option R} {r : R} (hr : evExec E nid o T h k = some r) : ∃ out, ExecR E nid o (look T) h out ∧ k out = some r := by
  unfold evExec at hr
  split at hr
  · rename_i f args ts hop
    rw [evO_eq] at hr
    split at hr
    · rename_i g first cap hf
      obtain ⟨out, h1, h2⟩ := callK_some hr
      exact ⟨out, .inl ⟨f, args, ts, g, first, cap, hop, hf, h1⟩, h2⟩
    · cases hr
  · rw [evO_eq] at hr
    split at hr
    · cases hr
    · rename_i ok out ha
      obtain ⟨h1, h2⟩ := cond_some hr
      subst h1
      exact ⟨out, .inr ha, h2⟩

theorem ExecR.congr {E : Env} {nid : Nat} {o : Oper} {T T' : Nat → V} {h h' : Nat → Blk} {out : Out} (hx : ExecR E nid o T h out) (hT : ∀ x ∈ o.op.operands, evF T' x = evF T x) (ht : ∀ id ∈ out.touch, h' id = h id) : ExecR E nid o T' h' out := by
  rcases hx with ⟨f, args, ts, g, first, cap, h1, h2, h3⟩ | ha
  · rw [h1] at hT
    refine .inl ⟨f, args, ts, g, first, cap, h1, ?_, ?_⟩
    · rw [hT f (by simp [Op.operands, Call.operands])]; exact h2
    · rw [List.map_congr_left (g := evF T) (fun x hx => hT x (by simp at hx; simp [Op.operands, Call.operands, hx]))]
      exact h3.congr_h ht
  · exact .inr (act_congr_ev (act_congr_h ha ht) hT)

def wantF (all : List Oper) (T : Nat → V) (o : Oper) : Option Bool := match o.guard with
  | none => some true
  | some (j, want) => match (all[j]?).bind (·.dst) with
    | none => none
    | some g => match T g with
      | .c (.bool b) => some (b == want)
      | .c (.tuple _) => some false
      | _ => none

def putF (T : Nat → V) (d : Option Nat) (v : V) : Nat → V := match d with
  | some d => fun t => if t = d then v else T t
  | none => T

theorem look_put (T : List (Nat × V)) (d : Option Nat) (v : V) : look (putT T d v) = putF (look T) d v := by
  cases d with
  | none => rfl
  | some d =>
    funext t
    simp only [putT, putF, look]
    cases hb : Nat.beq d t <;> simp only [cond_false, cond_true]
    · rw [if_neg (fun e => by subst e; simp at hb)]
    · rw [if_pos (beq_eq hb).symm]

theorem look_same (T : List (Nat × V)) (g : Nat) (v : V) (h : look T g = v) : look ((g, v) :: T) = look T := by
  funext t
  simp only [look]
  cases hb : Nat.beq g t <;> simp only [cond_false, cond_true]
  rw [← beq_eq hb, h]

def newL (nid : Nat) : List Blk → List (Nat × Blk)
  | [] => []
  | b :: r => (nid, b) :: newL (nid + 1) r

theorem updW_append (h : Nat → Blk) : ∀ (a b : List (Nat × Blk)), updW h (a ++ b) = updW (updW h a) b := by
  intro a
  induction a generalizing h with
  | nil => intro b; rfl
  | cons p a ih => intro b; obtain ⟨i, x⟩ := p; funext j; simp only [List.cons_append, updW]; rw [ih]

theorem updN_eq (h : Nat → Blk) (nid : Nat) (bs : List Blk) : updN h nid bs = updW h (newL nid bs) := by
  induction bs generalizing h nid with
  | nil => rfl
  | cons b r ih => funext j; simp only [newL, updN, updW]; rw [ih]

theorem outH_eq (h : Nat → Blk) (nid : Nat) (out : Out) : outH h nid out = updW h (out.wr ++ newL nid out.new) := by
  unfold outH; rw [updN_eq, updW_append]

theorem newL_fst (nid : Nat) (bs : List Blk) : (newL nid bs).map (·.1) = (List.range bs.length).map (nid + ·) := by
  induction bs generalizing nid with
  | nil => rfl
  | cons b r ih =>
    simp only [newL, List.map_cons, List.length_cons, List.range_succ_eq_map, List.map_map, ih]
    simp [Function.comp_def, Nat.add_assoc, Nat.add_comm 1]

theorem updW_other {h : Nat → Blk} {ups : List (Nat × Blk)} {j : Nat} (hj : j ∉ ups.map (·.1)) : updW h ups j = h j := by
  induction ups generalizing h with
  | nil => rfl
  | cons p r ih =>
    obtain ⟨i, b⟩ := p
    simp only [List.map_cons, List.mem_cons, not_or] at hj
    simp only [updW]
    rw [ih hj.2, if_neg hj.1]

theorem updW_mem {h h' : Nat → Blk} {ups : List (Nat × Blk)} {j : Nat} (hj : j ∈ ups.map (·.1)) : updW h ups j = updW h' ups j := by
  induction ups generalizing h h' with
  | nil => cases hj
  | cons p r ih =>
    obtain ⟨i, b⟩ := p
    simp only [updW]
    by_cases hr : j ∈ r.map (·.1)
    · exact ih hr
    · simp only [List.map_cons, List.mem_cons, hr, or_false] at hj
      rw [updW_other hr, updW_other hr, if_pos hj, if_pos hj]

theorem updW_comm {h : Nat → Blk} {a b : List (Nat × Blk)} (hd : ∀ j ∈ a.map (·.1), j ∉ b.map (·.1)) : updW (updW h a) b = updW (updW h b) a := by
  funext j
  by_cases ha : j ∈ a.map (·.1)
  · rw [updW_other (hd j ha)]; exact updW_mem ha
  · rw [updW_other (ups := a) ha]
    by_cases hb : j ∈ b.map (·.1)
    · exact updW_mem hb
    · rw [updW_other hb, updW_other hb, updW_other ha]

theorem putF_comm {T : Nat → V} {x y : Option Nat} {v u : V} (h : ∀ d, x = some d → y ≠ some d) : putF (putF T x v) y u = putF (putF T y u) x v := by
  cases x with
  | none => rfl
  | some d =>
    cases y with
    | none => rfl
    | some e =>
      have hne : d ≠ e := fun he => h d rfl (he ▸ rfl)
      funext t
      simp only [putF]
      by_cases h1 : t = e
      · subst h1; rw [if_pos rfl, if_neg (Ne.symm hne), if_pos rfl]
      · rw [if_neg h1]; by_cases h2 : t = d
        · rw [if_pos h2, if_pos h2]
        · rw [if_neg h2, if_neg h2, if_neg h1]

/-- What an operation leaves: its value, what it looked at, what it wrote. -/
structure Row where
  i : Nat
  v : V
  touch : List Nat
  ups : List (Nat × Blk)
def Row.fp (r : Row) : Fp := ⟨r.i, r.touch, r.ups.map (·.1)⟩

/-- An operation in its place: index, its new blocks' first name. -/
structure Item where
  i : Nat
  nid : Nat
  o : Oper

def items (tab : Nat → Option Entry) : Nat → Nat → List Oper → List Item
  | _, _, [] => []
  | i, nid, o :: r => ⟨i, nid, o⟩ :: items tab (i + 1) (nid + room tab o.op) r

def CoreR (E : Env) (all : List Oper) (len : Nat) (x : Item) (T : Nat → V) (h : Nat → Blk) (r : Row) : Prop :=
  r.i = x.i ∧ dstOk E.ntmps x.o.dst = true ∧
  ((wantF all T x.o = some true ∧ ∃ out, ExecR E x.nid x.o T h out ∧ r = ⟨x.i, out.val, out.touch, out.wr ++ newL x.nid out.new⟩ ∧ out.new.length ≤ room E.tab x.o.op ∧ x.nid + room E.tab x.o.op ≤ len ∧ ∀ p ∈ out.wr, p.1 < len) ∨
   (wantF all T x.o = some false ∧ r = ⟨x.i, undefV, [], []⟩))

def Tr (E : Env) (all : List Oper) (len : Nat) : List Item → (Nat → V) → (Nat → Blk) → List Row → (Nat → V) → (Nat → Blk) → Prop
  | [], T, h, [], T', h' => T' = T ∧ h' = h
  | x :: xs, T, h, r :: rs, T', h' => CoreR E all len x T h r ∧ Tr E all len xs (putF T x.o.dst r.v) (updW h r.ups) rs T' h'
  | _, _, _, _, _, _ => False

/- The two kinds of states are alike. -/
theorem setBlk_length : ∀ (H : List Blk) (i : Nat) (x : Blk), (setBlk H i x).length = H.length
  | [], _, _ => rfl
  | _ :: _, 0, _ => rfl
  | _ :: r, n + 1, x => by simp [setBlk, setBlk_length r]
theorem wrs_length : ∀ (ups : List (Nat × Blk)) (H : List Blk), (wrs H ups).length = H.length
  | [], _ => rfl
  | (i, b) :: r, H => by simp [wrs, wrs_length r, setBlk_length]
theorem news_eq : ∀ (bs : List Blk) (H : List Blk) (nid : Nat), news H nid bs = wrs H (newL nid bs)
  | [], _, _ => rfl
  | b :: r, H, nid => by simp only [news, newL, wrs]; exact news_eq r _ _
theorem wrs_append : ∀ (a b : List (Nat × Blk)) (H : List Blk), wrs (wrs H a) b = wrs H (a ++ b)
  | [], _, _ => rfl
  | (i, x) :: r, b, H => by simp only [wrs, List.cons_append]; exact wrs_append r b _
theorem blkAt_set : ∀ (H : List Blk) (i : Nat) (x : Blk), i < H.length → blkAt (setBlk H i x) = fun j => if j = i then x else blkAt H j
  | [], _, _, h => by simp at h
  | b :: r, 0, x, _ => by funext j; cases j <;> simp [setBlk, blkAt]
  | b :: r, n + 1, x, h => by
    funext j
    cases j with
    | zero => simp [setBlk, blkAt]
    | succ j => simp [setBlk, blkAt, blkAt_set r n x (by simpa using h)]
theorem blkAt_wrs : ∀ (ups : List (Nat × Blk)) (H : List Blk), (∀ p ∈ ups, p.1 < H.length) → blkAt (wrs H ups) = updW (blkAt H) ups
  | [], _, _ => rfl
  | (i, b) :: r, H, h => by
    simp only [wrs]
    rw [blkAt_wrs r _ (fun p hp => by rw [setBlk_length]; exact h p (by simp [hp])), blkAt_set _ _ _ (h (i, b) (by simp))]
    rfl

theorem newL_lt {nid : Nat} {bs : List Blk} {p : Nat × Blk} (hp : p ∈ newL nid bs) : nid ≤ p.1 ∧ p.1 < nid + bs.length := by
  have : p.1 ∈ (newL nid bs).map (·.1) := List.mem_map_of_mem hp
  rw [newL_fst] at this
  simp at this
  obtain ⟨a, h1, h2⟩ := this
  omega

/-- The evaluator's row of operations is a chain of steps. -/
theorem evOps_some {R : Type} {E : Env} {all : List Oper} {r : R} {k : St → List Fp → Option R} : ∀ (rest : List Oper) (i nid : Nat) (T : List (Nat × V)) (H : List Blk) (fps : List Fp), evOps E all i rest nid T H fps k = some r →
    ∃ rs T' H', Tr E all H.length (items E.tab i nid rest) (look T) (blkAt H) rs (look T') (blkAt H') ∧ H'.length = H.length ∧ k ⟨T', H'⟩ ((rs.map Row.fp).reverse ++ fps) = some r := by
  intro rest
  induction rest with
  | nil => intro i nid T H fps hr; exact ⟨[], T, H, ⟨rfl, rfl⟩, rfl, hr⟩
  | cons o rest ih =>
    intro i nid T H fps hr
    unfold evOps at hr
    dsimp only at hr
    obtain ⟨hd, hr⟩ := cond_some hr
    have hgo : ∀ T1 : List (Nat × V), look T1 = look T → wantF all (look T) o = some true → (evExec E nid o T1 (blkAt H) fun out => bif okIds H nid (room E.tab o.op) out then
        evOps E all (i + 1) rest (nid + room E.tab o.op) (putT T1 o.dst out.val) (news (wrs H out.wr) nid out.new)
          (⟨i, out.touch, out.wr.map (·.1) ++ (List.range out.new.length).map (nid + ·)⟩ :: fps) k
        else none) = some r → ∃ rs T' H', Tr E all H.length (items E.tab i nid (o :: rest)) (look T) (blkAt H) rs (look T') (blkAt H') ∧ H'.length = H.length ∧ k ⟨T', H'⟩ ((rs.map Row.fp).reverse ++ fps) = some r := by
      intro T1 hT1 hw hr
      obtain ⟨out, hx, hr⟩ := evExec_some hr
      obtain ⟨hok, hr⟩ := cond_some hr
      simp only [okIds, Bool.and_eq_true, List.all_eq_true] at hok
      obtain ⟨⟨o1, o2⟩, o3⟩ := hok
      have o1 := ble_le o1
      have o2 := ble_le o2
      rw [news_eq, wrs_append] at hr
      obtain ⟨rs, T', H', h1, h2, h3⟩ := ih _ _ _ _ _ hr
      rw [wrs_length] at h1 h2
      rw [blkAt_wrs _ _ (fun p hp => by
        rcases List.mem_append.mp hp with hp | hp
        · exact blt_lt (o3 p hp)
        · have := newL_lt hp; omega)] at h1
      rw [look_put, hT1] at h1
      refine ⟨⟨i, out.val, out.touch, out.wr ++ newL nid out.new⟩ :: rs, T', H', ⟨⟨rfl, hd, .inl ⟨hw, out, hT1 ▸ hx, rfl, o1, o2, fun p hp => blt_lt (o3 p hp)⟩⟩, h1⟩, h2, ?_⟩
      simp only [List.map_cons, List.reverse_cons, List.append_assoc, List.singleton_append]
      unfold Row.fp
      simp only [List.map_append, newL_fst]
      exact h3
    have hskip : ∀ T1 : List (Nat × V), look T1 = look T → wantF all (look T) o = some false → evOps E all (i + 1) rest (nid + room E.tab o.op) (putT T1 o.dst undefV) H (⟨i, [], []⟩ :: fps) k = some r →
        ∃ rs T' H', Tr E all H.length (items E.tab i nid (o :: rest)) (look T) (blkAt H) rs (look T') (blkAt H') ∧ H'.length = H.length ∧ k ⟨T', H'⟩ ((rs.map Row.fp).reverse ++ fps) = some r := by
      intro T1 hT1 hw hr
      obtain ⟨rs, T', H', h1, h2, h3⟩ := ih _ _ _ _ _ hr
      rw [look_put, hT1] at h1
      refine ⟨⟨i, undefV, [], []⟩ :: rs, T', H', ⟨⟨rfl, hd, .inr ⟨hw, rfl⟩⟩, h1⟩, h2, ?_⟩
      simp only [List.map_cons, List.reverse_cons, List.append_assoc, List.singleton_append]
      exact h3
    split at hr
    · rename_i hg
      exact hgo T rfl (by simp [wantF, hg]) hr
    · rename_i j want hg
      split at hr
      · cases hr
      · rename_i g hgd
        have hwant : ∀ b, look T g = .c (.bool b) → wantF all (look T) o = some (b == want) := fun b hb => by simp [wantF, hg, hgd, hb]
        split at hr
        · rename_i hb
          cases want <;> simp only [cond_true, cond_false] at hr
          · exact hskip _ (look_same _ _ _ hb) (hwant _ hb) hr
          · exact hgo _ (look_same _ _ _ hb) (hwant _ hb) hr
        · rename_i hb
          cases want <;> simp only [cond_true, cond_false] at hr
          · exact hgo _ (look_same _ _ _ hb) (hwant _ hb) hr
          · exact hskip _ (look_same _ _ _ hb) (hwant _ hb) hr
        · rename_i vs hb
          exact hskip _ rfl (by simp [wantF, hg, hgd, hb]) hr
        · cases hr

end Go.Proofs.Ytnjlpjdncejfcaa.Ev
