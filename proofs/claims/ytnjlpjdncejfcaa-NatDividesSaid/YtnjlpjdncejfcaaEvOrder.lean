/-
  The evaluator's regions whose order is drawn: any order does the same. (A text of ours; no condition.)
-/
import Derived.Test.YtnjlpjdncejfcaaEvStep
import Derived.Orders
namespace Go.Proofs.Ytnjlpjdncejfcaa.Ev
set_option linter.unusedVariables false
set_option linter.unusedSimpArgs false

theorem any_beq {d : Nat} {l : List Nat} : l.any (Nat.beq d) = true ↔ d ∈ l := by
  simp only [List.any_eq_true]
  constructor
  · rintro ⟨x, hx, hb⟩; have := beq_eq hb; subst this; exact hx
  · intro h; exact ⟨d, h, by simp⟩

theorem not_any_beq {d : Nat} {l : List Nat} : (!(l.any (Nat.beq d))) = true ↔ d ∉ l := by
  rw [Bool.not_eq_true', ← Bool.not_eq_true, any_beq]

theorem not_meets {a b : List Nat} : (!meets a b) = true ↔ ∀ j ∈ a, j ∉ b := by
  unfold meets
  rw [Bool.not_eq_true', ← Bool.not_eq_true, List.any_eq_true]
  simp only [not_exists, not_and]
  constructor
  · intro h j hj hb; exact h j hj (any_beq.mpr hb)
  · intro h j hj hb; exact h j hj (any_beq.mp hb)

variable {E : Env} {all : List Oper} {len : Nat}

theorem CoreR.congr {x : Item} {T T' : Nat → V} {h h' : Nat → Blk} {r : Row} (hc : CoreR E all len x T h r) (hT : ∀ t ∈ looks all x.o, T' t = T t) (hh : ∀ id ∈ r.touch, h' id = h id) : CoreR E all len x T' h' r := by
  obtain ⟨h1, h2, h3⟩ := hc
  have hop : ∀ y ∈ x.o.op.operands, evF T' y = evF T y := by
    intro y hy
    cases y with
    | tmp t =>
      refine hT t ?_
      unfold looks tmpsOf
      exact List.mem_append_left _ (List.mem_filterMap.mpr ⟨.tmp t, by simpa using hy, rfl⟩)
    | _ => rfl
  have hw : wantF all T' x.o = wantF all T x.o := by
    unfold wantF
    cases hg : x.o.guard with
    | none => rfl
    | some gw =>
      obtain ⟨j, want⟩ := gw
      dsimp only
      cases hd : (all[j]?).bind (·.dst) with
      | none => rfl
      | some g =>
        dsimp only
        rw [hT g (by unfold looks; rw [hg]; simp only [hd]; exact List.mem_append_right _ (by simp))]
  refine ⟨h1, h2, ?_⟩
  rw [hw]
  rcases h3 with ⟨a1, out, a2, a3, a4⟩ | h3
  · exact .inl ⟨a1, out, a2.congr hop (by subst a3; exact hh), a3, a4⟩
  · exact .inr h3

structure Apart (all : List Oper) (x y : Item) (rx ry : Row) : Prop where
  a1 : ∀ d, x.o.dst = some d → d ∉ looks all y.o
  a2 : ∀ d, x.o.dst = some d → y.o.dst ≠ some d
  a3 : ∀ d, y.o.dst = some d → d ∉ looks all x.o
  b1 : ∀ j ∈ rx.touch, j ∉ ry.ups.map (·.1)
  b2 : ∀ j ∈ rx.ups.map (·.1), j ∉ ry.touch
  b3 : ∀ j ∈ rx.ups.map (·.1), j ∉ ry.ups.map (·.1)

theorem putF_look {T : Nat → V} {dst : Option Nat} {v : V} {t : Nat} (h : ∀ d, dst = some d → d ≠ t) : putF T dst v t = T t := by
  cases dst with
  | none => rfl
  | some d => simp only [putF]; rw [if_neg (fun e => h d rfl e.symm)]

theorem CoreR.swap {x y : Item} {T : Nat → V} {h : Nat → Blk} {rx ry : Row} (hx : CoreR E all len x T h rx) (hy : CoreR E all len y (putF T x.o.dst rx.v) (updW h rx.ups) ry) (ha : Apart all x y rx ry) :
    CoreR E all len y T h ry ∧ CoreR E all len x (putF T y.o.dst ry.v) (updW h ry.ups) rx ∧ putF (putF T x.o.dst rx.v) y.o.dst ry.v = putF (putF T y.o.dst ry.v) x.o.dst rx.v ∧ updW (updW h rx.ups) ry.ups = updW (updW h ry.ups) rx.ups := by
  refine ⟨hy.congr (fun t ht => (putF_look (fun d hd he => ha.a1 d hd (he ▸ ht))).symm) (fun id hid => (updW_other (fun hm => ha.b2 id hm hid)).symm),
    hx.congr (fun t ht => putF_look (fun d hd he => ha.a3 d hd (he ▸ ht))) (fun id hid => updW_other (ha.b1 id hid)), putF_comm ha.a2, updW_comm ha.b3⟩

def Trp (E : Env) (all : List Oper) (len : Nat) : List (Item × Row) → (Nat → V) → (Nat → Blk) → (Nat → V) → (Nat → Blk) → Prop
  | [], T, h, T', h' => T' = T ∧ h' = h
  | p :: xs, T, h, T', h' => CoreR E all len p.1 T h p.2 ∧ Trp E all len xs (putF T p.1.o.dst p.2.v) (updW h p.2.ups) T' h'

theorem Tr.pairs : ∀ {xs : List Item} {T : Nat → V} {h : Nat → Blk} {rs : List Row} {T' : Nat → V} {h' : Nat → Blk}, Tr E all len xs T h rs T' h' → ∃ L : List (Item × Row), L.map (·.1) = xs ∧ L.map (·.2) = rs ∧ Trp E all len L T h T' h'
  | [], _, _, [], _, _, ht => ⟨[], rfl, rfl, ht⟩
  | x :: xs, _, _, r :: rs, _, _, ht => by
    obtain ⟨h1, h2⟩ := ht
    obtain ⟨L, a1, a2, a3⟩ := Tr.pairs h2
    exact ⟨(x, r) :: L, by simp [a1], by simp [a2], h1, a3⟩
  | [], _, _, _ :: _, _, _, ht => ht.elim
  | _ :: _, _, _, [], _, _, ht => ht.elim

theorem Trp.front {p : Item × Row} {L2 : List (Item × Row)} {T' : Nat → V} {h' : Nat → Blk} : ∀ (L1 : List (Item × Row)) (T : Nat → V) (h : Nat → Blk), Trp E all len (L1 ++ p :: L2) T h T' h' → (∀ q ∈ L1, Apart all q.1 p.1 q.2 p.2) →
    CoreR E all len p.1 T h p.2 ∧ Trp E all len (L1 ++ L2) (putF T p.1.o.dst p.2.v) (updW h p.2.ups) T' h'
  | [], _, _, ht, _ => ht
  | q :: L1, T, h, ht, ha => by
    obtain ⟨h1, h2⟩ := ht
    obtain ⟨h3, h4⟩ := Trp.front L1 _ _ h2 (fun q hq => ha q (by simp [hq]))
    obtain ⟨s1, s2, s3, s4⟩ := h1.swap h3 (ha q (by simp))
    rw [s3, s4] at h4
    exact ⟨s1, s2, h4⟩

/- The edges -/
def deps (o : Oper) : List Nat := (o.after.toList.filter (Region.binds .any)).map (·.on)

theorem mask_spec {accf : Nat → Nat} {x : Nat} : ∀ (ds : List Nat) (m : Nat), (ds.foldl (fun m d => m ||| (1 <<< d) ||| accf d) m).testBit x = true →
    m.testBit x = true ∨ x ∈ ds ∨ ∃ d ∈ ds, (accf d).testBit x = true
  | [], m, h => Or.inl h
  | d :: ds, m, h => by
    rw [List.foldl_cons] at h
    rcases mask_spec ds _ h with h | h | ⟨e, he, h⟩
    · rw [Nat.testBit_or, Nat.testBit_or, Nat.testBit_shiftLeft] at h
      simp only [Bool.or_eq_true, Bool.and_eq_true, decide_eq_true_eq] at h
      rcases h with (h | ⟨h1, h2⟩) | h
      · exact Or.inl h
      · have hz : x - d = 0 := by
          rcases Nat.eq_zero_or_pos (x - d) with h | h
          · exact h
          · rw [Nat.testBit_lt_two_pow (Nat.one_lt_two_pow (by omega))] at h2; cases h2
        have : x = d := by omega
        exact Or.inr (Or.inl (by simp [this]))
      · exact Or.inr (Or.inr ⟨d, by simp, h⟩)
    · exact Or.inr (Or.inl (List.mem_cons_of_mem _ h))
    · exact Or.inr (Or.inr ⟨e, List.mem_cons_of_mem _ he, h⟩)

theorem befores_spec {S : Nat → Prop} (hS : ∀ j o, S j → all[j]? = some o → ∀ d ∈ deps o, S d) :
    ∀ (rest : List Oper) (acc : List Nat), all = all.take acc.length ++ rest → acc.length ≤ all.length → (∀ j o, j < acc.length → all[j]? = some o → (∀ d ∈ deps o, S d) → ∀ x, (acc.reverse.getD j 0).testBit x = true → S x) →
      ∀ j o, all[j]? = some o → (∀ d ∈ deps o, S d) → ∀ x, ((befores rest acc).getD j 0).testBit x = true → S x := by
  intro rest
  induction rest with
  | nil =>
    intro acc hall hle hinv j o hj hd x hx
    simp only [befores] at hx
    have : j < acc.length := by
      have hjl : j < all.length := (List.getElem?_eq_some_iff.mp hj).1
      have := congrArg List.length hall
      simp at this
      omega
    exact hinv j o this hj hd x hx
  | cons o rest ih =>
    intro acc hall hle hinv
    have hlen : acc.length < all.length := by
      have := congrArg List.length hall
      simp at this
      omega
    have hat : all[acc.length]? = some o := by
      have h2 : (all.take acc.length ++ o :: rest)[acc.length]? = some o := by
        rw [List.getElem?_append_right (by simp; omega)]
        simp [Nat.min_eq_left hle]
      rw [← hall] at h2; exact h2
    simp only [befores]
    refine ih _ ?_ (by simp; omega) ?_
    · simp only [List.length_cons]
      rw [List.take_add_one, hat]
      simp only [Option.toList, List.append_assoc, List.singleton_append]
      exact hall
    · intro j oj hj hoj hd x hx
      simp only [List.reverse_cons] at hx
      simp only [List.length_cons] at hj
      rcases Nat.lt_or_ge j acc.length with hlt | hge
      · refine hinv j oj hlt hoj hd x ?_
        rw [List.getD_eq_getElem?_getD, List.getElem?_append_left (by simpa using hlt)] at hx
        rw [List.getD_eq_getElem?_getD]; exact hx
      · have : j = acc.length := by omega
        subst this
        rw [hat] at hoj
        simp only [Option.some.injEq] at hoj
        subst hoj
        rw [List.getD_eq_getElem?_getD, List.getElem?_append_right (by simp)] at hx
        simp only [List.length_reverse, Nat.sub_self, List.getElem?_cons_zero, Option.getD_some] at hx
        rcases mask_spec _ _ hx with hx | hx | ⟨d, hd1, hx⟩
        · rw [Nat.zero_testBit] at hx; cases hx
        · exact hd x hx
        · have hSd := hd d hd1
          rcases Nat.lt_or_ge d acc.length with hlt | hge
          · have hdl : d < all.length := by omega
            exact hinv d _ hlt (List.getElem?_eq_getElem hdl) (fun d' hd' => hS d _ hSd (List.getElem?_eq_getElem hdl) d' hd') x hx
          · rw [List.getD_eq_getElem?_getD, List.getElem?_eq_none (by simpa using hge)] at hx
            rw [Option.getD_none, Nat.zero_testBit] at hx; cases hx

theorem backward_spec : ∀ (rest : List Oper) (k : Nat), backward k rest = true → ∀ j o, rest[j]? = some o → ∀ d ∈ deps o, d < k + j
  | [], _, _, j, o, hj => by simp at hj
  | x :: r, k, hb, 0, o, hj => by
    simp at hj
    subst hj
    simp only [backward, Bool.and_eq_true, List.all_eq_true] at hb
    intro d hd
    simp only [deps, List.mem_map, List.mem_filter] at hd
    obtain ⟨e, ⟨h1, h2⟩, rfl⟩ := hd
    have := hb.1 e h1
    rw [h2] at this
    simp at this
    omega
  | x :: r, k, hb, j + 1, o, hj => by
    simp only [backward, Bool.and_eq_true] at hb
    intro d hd
    have := backward_spec r (k + 1) hb.2 j o (by simpa using hj) d hd
    omega

theorem okDraw_pairwise {bef : List Nat} : ∀ (l : List Fp), okDraw all bef l = true → l.Pairwise (fun y x => indep all bef x y = true)
  | [], _ => .nil
  | y :: r, h => by
    simp only [okDraw, Bool.and_eq_true, List.all_eq_true] at h
    exact .cons h.1 (okDraw_pairwise r h.2)

section
variable {P : Program} {ops : Array Oper} {Q : Exit → Act → World → Prop}

theorem mem_deps {o : Oper} {d : Nat} : d ∈ deps o ↔ ∃ e ∈ o.after, Region.binds .any e = true ∧ e.on = d := by
  simp only [deps, List.mem_map, List.mem_filter, Array.mem_toList_iff]
  constructor
  · rintro ⟨e, ⟨h1, h2⟩, h3⟩; exact ⟨e, h1, h2, h3⟩
  · rintro ⟨e, h1, h2, h3⟩; exact ⟨e, ⟨h1, h2⟩, h3⟩

theorem getD_false_true {l : Array Bool} {i : Nat} (h : l.getD i false = true) : l.getD i true = true := by
  rw [Array.getD_eq_getD_getElem?] at h ⊢
  cases hc : l[i]? <;> rw [hc] at h <;> simp_all

theorem getD_true_false {l : Array Bool} {i : Nat} (hi : i < l.size) (h : l.getD i true = true) : l.getD i false = true := by
  rw [Array.getD_eq_getD_getElem?, Array.getElem?_eq_getElem hi] at h ⊢
  exact h

/-- Any order: what a chain of steps does in the text's order. -/
theorem wpAny_of (I : (Nat → V) → (Nat → Blk) → List Item → Act → World → Prop) {T' : Nat → V} {h' : Nat → Blk}
    (hstep : ∀ T h pre x post r a w K, CoreR E ops.toList len x T h r → I T h (pre ++ x :: post) a w → ops[x.i]? = some x.o → (∀ a' w', I (putF T x.o.dst r.v) (updW h r.ups) (pre ++ post) a' w' → K a' w') → wpOp P ops Q x.i K a w)
    (hb : backward 0 ops.toList = true) (hQ : ∀ a w, I T' h' [] a w → Q .normal a w) :
    ∀ (fuel : Nat) (listed : Array Bool) (L : List (Item × Row)) (T : Nat → V) (h : Nat → Blk) (a : Act) (w : World), Trp E ops.toList len L T h T' h' → I T h (L.map (·.1)) a w → L.length ≤ fuel →
      listed.size = ops.size → L.map (·.1.i) = (List.range ops.size).filter (fun i => !listed.getD i true) → (∀ p ∈ L, ops[p.1.i]? = some p.1.o) → (∀ p ∈ L, p.2.i = p.1.i) →
      L.Pairwise (fun p q => indep ops.toList (befores ops.toList []) p.2.fp q.2.fp = true) →
      (∀ j o, listed.getD j false = true → ops[j]? = some o → ∀ d ∈ deps o, listed.getD d false = true) →
      wpAny P .any ops Q fuel listed a w := by
  intro fuel
  induction fuel with
  | zero =>
    intro listed L T h a w ht hI hlen hsz hL ho hri hpw hcl
    have : L = [] := List.length_eq_zero_iff.mp (by omega)
    subst this
    obtain ⟨rfl, rfl⟩ := ht
    refine ⟨?_, hQ a w hI⟩
    rw [List.eq_nil_iff_forall_not_mem]
    intro j hj
    rw [mem_ready] at hj
    obtain ⟨h0, o, hjo, _⟩ := hj
    have hjl : j < ops.size := (Array.getElem?_eq_some_iff.mp hjo).1
    have : j ∈ (List.range ops.size).filter (fun i => !listed.getD i true) := by simp only [List.mem_filter, List.mem_range]; exact ⟨hjl, by rw [h0]; rfl⟩
    rw [← hL] at this
    simp at this
  | succ fuel ih =>
    intro listed L T h a w ht hI hlen hsz hL ho hri hpw hcl
    refine ⟨fun hr => ?_, fun i hi => ?_⟩
    · cases L with
      | nil => obtain ⟨rfl, rfl⟩ := ht; exact hQ a w hI
      | cons p L =>
        exfalso
        have hpo := ho p (by simp)
        have hpl : p.1.i < ops.size := (Array.getElem?_eq_some_iff.mp hpo).1
        have hin : p.1.i ∈ (List.range ops.size).filter (fun i => !listed.getD i true) := by rw [← hL]; simp
        simp only [List.mem_filter, List.mem_range, Bool.not_eq_true'] at hin
        have hfirst : ∀ j, j < p.1.i → listed.getD j true = true := by
          intro j hj
          cases hc : listed.getD j true with
          | true => rfl
          | false =>
            exfalso
            have hm : j ∈ (p :: L).map (·.1.i) := by rw [hL]; simp only [List.mem_filter, List.mem_range]; exact ⟨by omega, by rw [hc]; rfl⟩
            have hsorted : ((p :: L).map (·.1.i)).Pairwise (· < ·) := by rw [hL]; exact List.Pairwise.filter _ List.pairwise_lt_range
            simp only [List.map_cons, List.pairwise_cons, List.mem_cons] at hsorted hm
            rcases hm with rfl | hm
            · omega
            · have := hsorted.1 j hm; omega
        have hrd : p.1.i ∈ Region.ready .any ops listed := by
          rw [mem_ready]
          refine ⟨hin.2, p.1.o, hpo, fun e he hbe => ?_⟩
          have hlt : e.on < 0 + p.1.i := backward_spec _ _ hb p.1.i p.1.o (by simpa using hpo) e.on (mem_deps.mpr ⟨e, he, hbe, rfl⟩)
          exact getD_true_false (by omega) (hfirst e.on (by omega))
        rw [hr] at hrd
        cases hrd
    · have hi' := hi
      rw [mem_ready] at hi
      obtain ⟨h0, o, hio, hdeps⟩ := hi
      have hil : i < ops.size := (Array.getElem?_eq_some_iff.mp hio).1
      have hm : i ∈ L.map (·.1.i) := by rw [hL]; simp only [List.mem_filter, List.mem_range]; exact ⟨hil, by rw [h0]; rfl⟩
      obtain ⟨p, hpL, hpi⟩ := List.mem_map.mp hm
      obtain ⟨L1, L2, rfl⟩ := List.append_of_mem hpL
      have hpo := ho p hpL
      have hd' : ∀ d ∈ deps o, listed.getD d false = true := fun d hd => by
        obtain ⟨e, he, hbe, rfl⟩ := mem_deps.mp hd
        exact hdeps e he hbe
      have hbef : ∀ x, ((befores ops.toList []).getD i 0).testBit x = true → listed.getD x false = true :=
        befores_spec (all := ops.toList) (S := fun j => listed.getD j false = true) (fun j o hj hjo => hcl j o hj (by simpa using hjo)) ops.toList [] (by simp) (by simp) (fun j o hj => by simp at hj) i o (by simpa using hio) hd'
      have hap : ∀ q ∈ L1, Apart ops.toList q.1 p.1 q.2 p.2 := by
        intro q hq
        have hind : indep ops.toList (befores ops.toList []) q.2.fp p.2.fp = true := by
          rw [List.pairwise_append] at hpw
          exact hpw.2.2 q hq p (by simp)
        have hqL : q ∈ L1 ++ p :: L2 := by simp [hq]
        have hqu : listed.getD q.1.i true = false := by
          have : q.1.i ∈ (L1 ++ p :: L2).map (·.1.i) := List.mem_map_of_mem hqL
          rw [hL] at this
          simp only [List.mem_filter, Bool.not_eq_true'] at this
          exact this.2
        simp only [indep, Row.fp, Bool.or_eq_true, Bool.and_eq_true] at hind
        rw [hri q hqL, hri p hpL, hpi] at hind
        rcases hind with hind | ⟨⟨⟨h1, h2⟩, h3⟩, h4⟩
        · have := getD_false_true (hbef _ hind)
          rw [hqu] at this; cases this
        · have e1 : ops.toList.getD q.1.i default = q.1.o := by rw [List.getD_eq_getElem?_getD]; have := ho q hqL; simp [this]
          have e2 : ops.toList.getD i default = p.1.o := by rw [← hpi, List.getD_eq_getElem?_getD]; simp [hpo]
          rw [e1, e2] at h1
          simp only [apartT, Bool.and_eq_true] at h1
          refine ⟨fun d hd => ?_, fun d hd he => ?_, fun d hd => ?_, not_meets.mp h2, not_meets.mp h3, not_meets.mp h4⟩
          · have := h1.1; rw [hd] at this; simp only [Bool.and_eq_true] at this; exact not_any_beq.mp this.1
          · have := h1.1; rw [hd] at this; simp only [Bool.and_eq_true] at this; exact not_any_beq.mp this.2 (by simp [he])
          · have := h1.2; rw [hd] at this; exact not_any_beq.mp this
      obtain ⟨hc, ht'⟩ := Trp.front L1 T h ht hap
      rw [← hpi]
      refine hstep T h (L1.map (·.1)) p.1 (L2.map (·.1)) p.2 a w _ hc (by simpa using hI) hpo (fun a' w' hI' => ?_)
      refine ih _ (L1 ++ L2) _ _ a' w' ht' (by simpa using hI') (by simp at hlen ⊢; omega) (by simpa using hsz) ?_ ?_ ?_ ?_ ?_
      · have hnd : ((L1 ++ p :: L2).map (·.1.i)).Nodup := by rw [hL]; exact (List.nodup_range).filter _
        have hf : ((List.range ops.size).filter fun j => !(listed.setIfInBounds p.1.i true).getD j true) = (((List.range ops.size).filter fun j => !listed.getD j true).filter fun j => j != p.1.i) := by
          rw [List.filter_filter]
          refine List.filter_congr (fun j hj => ?_)
          by_cases hji : j = p.1.i
          · subst hji
            have : (listed.setIfInBounds p.1.i true).getD p.1.i true = true := by
              rw [Array.getD_eq_getD_getElem?, Array.getElem?_setIfInBounds_self]; split <;> rfl
            rw [this]; simp
          · rw [getD_set_ne true (Ne.symm hji)]
            simp [hji]
        rw [hf, ← hL]
        simp only [List.map_append, List.map_cons, List.filter_append, List.filter_cons, bne_self_eq_false, Bool.false_eq_true, if_false]
        simp only [List.map_append, List.map_cons, List.nodup_append, List.nodup_cons, List.mem_cons] at hnd
        obtain ⟨_, ⟨hn1, _⟩, hn2⟩ := hnd
        rw [List.filter_eq_self.mpr, List.filter_eq_self.mpr]
        · intro x hx; simp only [bne_iff_ne, ne_eq]; rintro rfl; exact hn1 hx
        · intro x hx; simp only [bne_iff_ne, ne_eq]; rintro rfl; exact hn2 _ hx _ (.inl rfl) rfl
      · intro q hq; refine ho q ?_; simp only [List.mem_append, List.mem_cons] at hq ⊢; rcases hq with h | h <;> simp [h]
      · intro q hq; refine hri q ?_; simp only [List.mem_append, List.mem_cons] at hq ⊢; rcases hq with h | h <;> simp [h]
      · exact hpw.sublist (List.Sublist.append_left (List.sublist_cons_self _ _) _)
      · intro j oj hj hoj d hd
        by_cases hji : j = p.1.i
        · subst hji
          rw [hpi, hio] at hoj
          simp only [Option.some.injEq] at hoj
          subst hoj
          exact getD_set_true (hd' d hd)
        · rw [getD_set_ne false (Ne.symm hji)] at hj
          exact getD_set_true (hcl j oj hj hoj d hd)

/-- The text's own order. -/
theorem wpOps_of (I : (Nat → V) → (Nat → Blk) → List Item → Act → World → Prop) {T' : Nat → V} {h' : Nat → Blk}
    (hstep : ∀ T h pre x post r a w K, CoreR E ops.toList len x T h r → I T h (pre ++ x :: post) a w → ops[x.i]? = some x.o → (∀ a' w', I (putF T x.o.dst r.v) (updW h r.ups) (pre ++ post) a' w' → K a' w') → wpOp P ops Q x.i K a w)
    (hQ : ∀ a w, I T' h' [] a w → Q .normal a w) :
    ∀ (L : List (Item × Row)) (T : Nat → V) (h : Nat → Blk) (a : Act) (w : World), Trp E ops.toList len L T h T' h' → I T h (L.map (·.1)) a w → (∀ p ∈ L, ops[p.1.i]? = some p.1.o) → wpOps P ops Q (L.map (·.1.i)) a w := by
  intro L
  induction L with
  | nil => intro T h a w ht hI ho; obtain ⟨rfl, rfl⟩ := ht; exact hQ a w hI
  | cons p L ih =>
    intro T h a w ht hI ho
    simp only [List.map_cons]
    rw [wpOps_cons]
    exact hstep T h [] p.1 (L.map (·.1)) p.2 a w _ ht.1 (by simpa using hI) (ho p (by simp)) (fun a' w' hI' => ih _ _ a' w' ht.2 (by simpa using hI') (fun q hq => ho q (by simp [hq])))

end
end Go.Proofs.Ytnjlpjdncejfcaa.Ev
