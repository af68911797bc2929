/-
  The evaluator's operations, seventh part: fields, indexes, lengths, slices. (A text of ours; no condition.)
-/
import Derived.Test.YtnjlpjdncejfcaaEvOps7
namespace Go.Proofs.Ytnjlpjdncejfcaa.Ev
set_option linter.unusedVariables false
set_option linter.unusedSimpArgs false

section
variable {P : Program} {F : Nat → Prop} {ρ : Rho} {h : Nat → Blk} {w : World} {nid : Nat} {ty : Nat → Option TI} {ev : Operand → V} {ae : Operand → Value} {out : Out} {M : Nat → Prop}

theorem run_fieldAt (hty : TyOK P ty) {t f fo fsz : Nat} {ti : TI} {fs : List (Nat × Nat)} (ht : ty t = some ti) (hk : ti.tk = .struct fs) (hf : fieldOf ty fs f = some (fo, fsz)) (hpos : 0 < fsz) (b o : Nat) :
    (Instr.fieldAt t (.pointer (some ⟨b, o, none⟩)) f).run P w = .ok (.pointer (some ⟨b, o + fo, none⟩)) w := by
  have h0 := (hty _ _ ht).tk
  rw [hk] at h0
  obtain ⟨fields, h1, h2, h3⟩ := h0
  obtain ⟨t', ti', a1, a2, a3⟩ := fieldOf_eq hf
  obtain ⟨fl, b1, b2, b3⟩ := field_row h2 a1
  have hs : (Go.sizeOf fl.type).run P w = .ok ti'.size w := by rw [b2]; exact (hty _ _ a2).sizeOf
  have hne : ¬ ti'.size = 0 := by omega
  simp only [Instr.fieldAt, Sem.run_bind, run_underlying h1, Result.andThen_ok, b1, Instr.sureAddr, Sem.run_pure, fieldPlace, hs, if_neg hne, addr_add, b3]

theorem fieldAddr_ok (hty : TyOK P ty) {t f : Nat} {ti : TI} {fs : List (Nat × Nat)} {x : V} {vx : Value} (ht : ty t = some ti) (hk : ti.tk = .struct fs) (hx : Rel ρ M w x vx) {out : Out}
    (hb : fieldAtV ty fs f x = some (true, out)) :
    ∃ y v, out = { val := y } ∧ (Instr.fieldAt t vx f).run P w = .ok v w ∧ Rel ρ M w y v := by
  cases x <;> simp only [fieldAtV] at hb
  case ptr id off ext =>
    split at hb
    · rename_i fo fsz hf
      obtain ⟨h1, h2⟩ := cond_some hb
      rw [Bool.and_eq_true] at h1
      have := ble_le h1.1
      simp only [Rel] at hx
      obtain ⟨b, n, C, hp, hn, rfl⟩ := hx
      exact ⟨_, _, pureV_out h2, run_fieldAt hty ht hk hf (blt_lt h1.2) b off, by simp only [Rel]; exact ⟨b, n, C, hp, by omega, rfl⟩⟩
    · cases hb
  case ilp k l off ext =>
    split at hb
    · rename_i fo fsz hf
      obtain ⟨h1, h2⟩ := cond_some hb
      rw [Bool.and_eq_true] at h1
      have := ble_le h1.1
      simp only [Rel] at hx
      obtain ⟨b, o, rfl, hn, hr⟩ := hx
      exact ⟨_, _, pureV_out h2, run_fieldAt hty ht hk hf (blt_lt h1.2) b (o + off), by simp only [Rel]; exact ⟨b, o, by rw [Nat.add_assoc], by omega, hr⟩⟩
    · cases hb
  case ivp l i off ext =>
    split at hb
    · rename_i fo fsz hf
      obtain ⟨h1, h2⟩ := cond_some hb
      rw [Bool.and_eq_true] at h1
      have := ble_le h1.1
      simp only [Rel] at hx
      obtain ⟨b, o, rfl, hn, hr⟩ := hx
      exact ⟨_, _, pureV_out h2, run_fieldAt hty ht hk hf (blt_lt h1.2) b (o + off), by simp only [Rel]; exact ⟨b, o, by rw [Nat.add_assoc], by omega, hr⟩⟩
    · cases hb
  all_goals cases hb

/-- A part of an aggregate. -/
theorem part_ok {t : Nat} {ti : TI} (ht : TyOK1 P t ti) (hpos : 0 < ti.size) {cs r : List V} {xs : Array Value} {off : Nat} (hr : RelL ρ M w cs xs.toList) (hc : takeV (dropV cs off) ti.size = some r) :
    ∃ v, (part t xs off).run P w = .ok v w ∧ Rel ρ M w (packV ti r) v := by
  rw [dropV_eq] at hc
  obtain ⟨h1, h2⟩ := takeV_eq hc
  have hlen := hr.length
  have hrr : RelL ρ M w r ((xs.toList.drop off).take ti.size) := by rw [h1]; exact (hr.drop off).take _
  unfold part packV
  simp only [Sem.run_bind, ht.isAgg, Result.andThen_ok]
  cases ha : ti.isAgg with
  | true =>
    refine ⟨.agg (xs.extract off (off + ti.size)), by simp only [if_true, Sem.run_bind, ht.sizeOf, Result.andThen_ok, Sem.run_pure], ?_⟩
    simp only [cond_true, Rel]
    refine ⟨_, rfl, ?_⟩
    have : (xs.extract off (off + ti.size)).toList = (xs.toList.drop off).take ti.size := by
      simp [Array.toList_extract]
    rw [this]; exact hrr
  | false =>
    have hone := ht.one ha
    simp only [List.length_drop] at h2
    have hlt : off < xs.size := by simp at hlen; omega
    refine ⟨xs[off], by simp [hlt], ?_⟩
    simp only [cond_false]
    have e : (xs.toList.drop off).take ti.size = [xs[off]] := by
      rw [hone, List.drop_eq_getElem_cons (by simpa using hlt)]
      simp
    rw [e] at hrr
    cases r with
    | nil => simp [RelL] at hrr
    | cons v r => simp only [RelL] at hrr; exact hrr.1

theorem field_ok (hty : TyOK P ty) {t f : Nat} {ti : TI} {fs : List (Nat × Nat)} {cs r : List V} {vx : Value} {t' fo : Nat} {te : TI} (ht : ty t = some ti) (hk : ti.tk = .struct fs) (hx : Rel ρ M w (.agg cs) vx)
    (hf : fs[f]? = some (t', fo)) (hte : ty t' = some te) (hpos : 0 < te.size) (hc : takeV (dropV cs fo) te.size = some r) :
    ∃ v, (Instr.field t vx f).run P w = .ok v w ∧ Rel ρ M w (packV te r) v := by
  have h0 := (hty _ _ ht).tk
  rw [hk] at h0
  obtain ⟨fields, h1, h2, h3⟩ := h0
  obtain ⟨fl, b1, b2, b3⟩ := field_row h2 hf
  simp only [Rel] at hx
  obtain ⟨xs, rfl, hx⟩ := hx
  obtain ⟨v, c1, c2⟩ := part_ok (hty _ _ hte) hpos hx hc
  refine ⟨v, ?_, c2⟩
  simp only [Instr.field, Sem.run_bind, run_underlying h1, Result.andThen_ok, b1, asAgg, Sem.run_pure, b2, b3, c1]

theorem extract_ok {i : Nat} {vs : List V} {y : V} {vx : Value} (hx : Rel ρ M w (.tup vs) vx) (hg : getV vs i = some y) : ∃ v, (Instr.extract vx i).run P w = .ok v w ∧ Rel ρ M w y v := by
  simp only [Rel] at hx
  obtain ⟨xs, rfl, hx⟩ := hx
  rw [getV_eq] at hg
  obtain ⟨v, h1, h2⟩ := hx.get hg
  refine ⟨v, ?_, h2⟩
  have : xs[i]? = some v := by simpa using h1
  simp only [Instr.extract, this, Sem.run_pure]

/-- Where a slice lies: its cells as a block holds them. -/
theorem sw_cells (hh : HeapRel F ρ h w) {id s : Nat} {vx : Value} (hx : Rel ρ (av F (liveM ρ h)) w (.sw id s) vx) (hl : (h id).live) :
    0 < s ∧ ((∃ b n C cap c, ρ id = some ⟨some b, n, C⟩ ∧ n % s = 0 ∧ n / s ≤ cap ∧ cap * s ≤ C ∧ vx = .slice (some ⟨b, 0, none⟩) (n / s) cap ∧ Own w b C c ∧ c.size = C ∧ Holds ρ (av F (liveM ρ h)) w n c (h id)) ∨
      (ρ id = some ⟨none, 0, 0⟩ ∧ vx = .slice none 0 0 ∧ ((∃ k, h id = .ints k []) ∨ h id = .vals []))) := by
  simp only [Rel] at hx
  obtain ⟨h0, ⟨b, n, C, cap, h1, h2, h3, h4, h5⟩ | ⟨h1, h2⟩⟩ := hx
  · obtain ⟨c, ho, hsz, hold⟩ := hh.own hl h1
    exact ⟨h0, .inl ⟨b, n, C, cap, c, h1, h2, h3, h4, h5, ho, hsz, hold⟩⟩
  · refine ⟨h0, .inr ⟨h1, h2, ?_⟩⟩
    obtain ⟨p, hp, hb⟩ := hh.rel id hl
    rw [h1] at hp
    simp only [Option.some.injEq] at hp
    subst hp
    cases hx : h id with
    | dead => rw [hx] at hl; exact hl.elim
    | ints k l =>
      rw [hx] at hb
      obtain ⟨hb1, _⟩ := hb
      have : l = [] := List.length_eq_zero_iff.mp hb1
      exact .inl ⟨k, by rw [this]⟩
    | vals cs =>
      rw [hx] at hb
      obtain ⟨hb1, _⟩ := hb
      have : cs = [] := List.length_eq_zero_iff.mp hb1
      exact .inr (by rw [this])

theorem Holds.len {n : Nat} {c : Array Value} {k : IntKind} {l : List Int} (hx : Holds ρ M w n c (.ints k l)) : l.length = n := hx.1
theorem Holds.lenV {n : Nat} {c : Array Value} {l : List V} (hx : Holds ρ M w n c (.vals l)) : l.length = n := hx.1

/-- How long a slice is. -/
theorem lenV_slice (hh : HeapRel F ρ h w) {x : V} {vx : Value} {n : Nat} {tc : List Nat} (hx : Rel ρ (av F (liveM ρ h)) w x vx) (hl : lenV h x = some (n, tc)) (hs : ∀ s, x ≠ .c (.string s)) : ∃ a c, vx = .slice a n c ∧ n ≤ c := by
  unfold lenV at hl
  split at hl
  · simp only [Option.some.injEq, Prod.mk.injEq] at hl
    have := hx.c
    subst this
    obtain ⟨rfl, _⟩ := hl
    exact ⟨none, 0, rfl, Nat.le_refl _⟩
  · rename_i s; exact absurd rfl (hs s)
  · rename_i id s
    have hlive : (h id).live := by
      cases hx : h id with
      | dead => rw [hx] at hl; simp at hl
      | _ => trivial
    obtain ⟨h0, ⟨b, m, C, cap, c, h1, h2, h3, h4, h5, ho, hsz, hold⟩ | ⟨h1, h2, ⟨k, hk⟩ | hk⟩⟩ := sw_cells hh hx hlive
    · split at hl
      · rename_i k l hid
        simp only [Option.some.injEq, Prod.mk.injEq, cnt_eq] at hl
        rw [hid] at hold
        have := hold.len
        obtain ⟨rfl, _⟩ := hl
        exact ⟨_, cap, by rw [this]; exact h5, by rw [this]; exact h3⟩
      · rename_i l hid
        simp only [Option.some.injEq, Prod.mk.injEq, cnt_eq] at hl
        rw [hid] at hold
        have := hold.lenV
        obtain ⟨rfl, _⟩ := hl
        exact ⟨_, cap, by rw [this]; exact h5, by rw [this]; exact h3⟩
      · cases hl
    all_goals
      rw [hk] at hl
      simp only [Option.some.injEq, Prod.mk.injEq, cnt_eq, List.length_nil, Nat.zero_div] at hl
      obtain ⟨rfl, _⟩ := hl
      exact ⟨none, 0, h2, Nat.le_refl _⟩
  · rename_i id s off len
    simp only [Option.some.injEq, Prod.mk.injEq] at hl
    obtain ⟨rfl, _⟩ := hl
    simp only [Rel] at hx
    obtain ⟨h0, ⟨b, m, C, cap, h1, h2, h3, h4, h5⟩ | ⟨h2, a, h3⟩⟩ := hx
    · exact ⟨_, cap, h5, h3⟩
    · exact ⟨a, 0, by rw [h2]; exact h3, by omega⟩
  · rename_i k s l
    simp only [Option.some.injEq, Prod.mk.injEq, cnt_eq] at hl
    obtain ⟨rfl, _⟩ := hl
    simp only [Rel] at hx
    obtain ⟨h0, h1, ⟨h2, a, h3⟩ | ⟨b, o, cap, h2, h3, _⟩⟩ := hx
    · subst h2; exact ⟨a, 0, by simpa using h3, by simp⟩
    · exact ⟨_, cap, h2, h3⟩
  · rename_i m cols
    simp only [Option.some.injEq, Prod.mk.injEq] at hl
    obtain ⟨rfl, _⟩ := hl
    simp only [Rel] at hx
    obtain ⟨h0, ⟨h2, a, h3⟩ | ⟨b, o, cap, h2, h3, _⟩⟩ := hx
    · subst h2; exact ⟨a, 0, h3, Nat.le_refl _⟩
    · exact ⟨_, cap, h2, h3⟩
  · cases hl

theorem len_ok (hty : TyOK P ty) (hh : HeapRel F ρ h w) {t : Nat} {ti : TI} {x : V} {vx : Value} {n : Nat} {tc : List Nat} (ht : ty t = some ti) (hx : Rel ρ (av F (liveM ρ h)) w x vx) (hl : lenV h x = some (n, tc)) (hk : lenTk ti.tk x = true) (ts : Array TypeId) (hts : ts[0]? = some t) (t' : TypeId) :
    (Builtin.len_ ts t' #[vx]).run P w = .ok (.int .i64 n) w := by
  have h0 := (hty _ _ ht).tk
  unfold lenTk at hk
  split at hk
  · rename_i s hti
    rw [hti] at h0
    simp only [tkOK] at h0
    have := hx.c; subst this
    simp only [lenV, Option.some.injEq, Prod.mk.injEq] at hl
    obtain ⟨rfl, _⟩ := hl
    simp [Builtin.len_, hts, run_underlying h0, goInt]
  · cases hk
  · rename_i e hti hns
    rw [hti] at h0
    simp only [tkOK] at h0
    obtain ⟨a, c, rfl, _⟩ := lenV_slice hh hx hl (fun s e => hns s e)
    simp [Builtin.len_, hts, run_underlying h0, goInt]
  · cases hk

/-- An index into a slice or an array behind a pointer. -/
theorem run_indexAt {t : Nat} {e : Nat} {te : TI} (hty : TyOK P ty) (hte : ty e = some te) (hu : P.underlying t = some (.slice e)) {b off len cap : Nat} {k : IntKind} {i : Int} (h0 : 0 ≤ i) (h1 : i < (len : Int)) :
    (Instr.indexAt t (.slice (some ⟨b, off, none⟩) len cap) (.int k i)).run P w = .ok (.pointer (some ⟨b, off + mulw te.size i.toNat, none⟩)) w := by
  simp only [Instr.indexAt, asIntOf, Sem.run_bind, Sem.run_pure, Result.andThen_ok, run_underlying hu, if_pos (And.intro h0 h1), (hty _ _ hte).sizeOf, addr_add, mulw_eq]
theorem run_indexAtA {t n : Nat} {e : Nat} {te : TI} (hty : TyOK P ty) (hte : ty e = some te) (hu : P.underlying t = some (.array n e)) {b off : Nat} {k : IntKind} {i : Int} (h0 : 0 ≤ i) (h1 : i < (n : Int)) :
    (Instr.indexAt t (.pointer (some ⟨b, off, none⟩)) (.int k i)).run P w = .ok (.pointer (some ⟨b, off + mulw te.size i.toNat, none⟩)) w := by
  simp only [Instr.indexAt, asIntOf, Instr.sureAddr, Sem.run_bind, Sem.run_pure, Result.andThen_ok, run_underlying hu, if_pos (And.intro h0 h1), (hty _ _ hte).sizeOf, addr_add, mulw_eq]

theorem two_true {a b : Bool} (h : (a && b) = true) : a = true ∧ b = true := by simpa using h
theorem mul_lt {i n w : Nat} (h : i < n) : i * w + w ≤ n * w := by
  have : (i + 1) * w ≤ n * w := Nat.mul_le_mul_right w h
  rw [Nat.succ_mul] at this
  exact this

theorem indexAt_ok (hty : TyOK P ty) (hh : HeapRel F ρ h w) {t : Nat} {x i : V} {vx vi : Value} {out : Out} (hx : Rel ρ (av F (liveM ρ h)) w x vx) (hi : Rel ρ (av F (liveM ρ h)) w i vi) (hb : indexAt ty t x i h = some (true, out)) :
    ∃ y tc v, out = { val := y, touch := tc } ∧ (Instr.indexAt t vx vi).run P w = .ok v w ∧ Rel ρ (av F (liveM ρ h)) w y v := by
  unfold indexAt at hb
  split at hb
  · rename_i ki n e s0 b0 z0 ht
    have hvi := hi.int; subst hvi
    have hu := (hty _ _ ht).tk
    simp only [tkOK] at hu
    split at hb
    · cases hb
    · rename_i te hte
      split at hb
      · rename_i id s
        obtain ⟨hw, hb⟩ := cond_some hb
        have hw := beq_eq hw
        have hlive : (h id).live := by
          cases hx : h id with
          | dead => rw [hx] at hb; simp at hb
          | _ => trivial
        have fin : ∀ L : Nat, (∀ {m c}, Holds ρ (av F (liveM ρ h)) w m c (h id) → L = m) → ((∃ k, h id = .ints k []) ∨ h id = .vals [] → L = 0) → (decide (0 ≤ n) && decide (n < ((cnt s L : Nat) : Int))) = true → out = { val := .ptr id (mulw s n.toNat) s, touch := [id] } →
            ∃ y tc v, out = { val := y, touch := tc } ∧ (Instr.indexAt t vx (.int ki n)).run P w = .ok v w ∧ Rel ρ (av F (liveM ρ h)) w y v := by
          intro L hL1 hL2 hok hout
          obtain ⟨g0, g1⟩ := two_true hok
          have g0 : 0 ≤ n := by simpa using g0
          have g1 : n < ((cnt s L : Nat) : Int) := by simpa using g1
          rw [cnt_eq] at g1
          obtain ⟨h0, ⟨b, m, C, cap, c, h1, h2, h3, h4, h5, ho, hsz, hold⟩ | ⟨h1, h2, hk⟩⟩ := sw_cells hh hx hlive
          · have := hL1 hold
            subst this
            subst h5
            refine ⟨_, _, _, hout, run_indexAt hty hte hu g0 g1, ?_⟩
            simp only [Rel]
            refine ⟨b, L, C, h1, ?_, by rw [Nat.zero_add, hw]⟩
            rw [mulw_eq]
            have h6 : n.toNat < L / s := by omega
            have := mul_lt (w := s) h6
            have h7 := Nat.div_mul_le_self L s
            omega
          · have := hL2 hk
            subst this
            simp at g1; omega
        split at hb
        · rename_i k l hid
          simp only [Option.some.injEq, Prod.mk.injEq] at hb
          exact fin l.length (fun {m c} hold => by rw [hid] at hold; exact hold.len) (fun hk => by rw [hid] at hk; rcases hk with ⟨k', hk⟩ | hk <;> cases hk; rfl) hb.1 hb.2.symm
        · rename_i l hid
          simp only [Option.some.injEq, Prod.mk.injEq] at hb
          exact fin l.length (fun {m c} hold => by rw [hid] at hold; exact hold.lenV) (fun hk => by rw [hid] at hk; rcases hk with ⟨k', hk⟩ | hk <;> cases hk; rfl) hb.1 hb.2.symm
        · cases hb
      · rename_i id s off len
        obtain ⟨hw, hb⟩ := cond_some hb
        have hw := beq_eq hw
        obtain ⟨hok, hout⟩ := pureIf_out hb
        obtain ⟨g0, g1⟩ := two_true hok
        have g0 : 0 ≤ n := by simpa using g0
        have g1 : n < (len : Int) := by simpa using g1
        simp only [Rel] at hx
        obtain ⟨h0, ⟨b, m, C, cap, h1, h2, h3, h4, h5⟩ | ⟨h2, h3⟩⟩ := hx
        · subst h5
          refine ⟨_, [], _, hout, run_indexAt hty hte hu g0 g1, ?_⟩
          simp only [Rel]
          refine ⟨b, m, C, h1, ?_, by rw [hw]⟩
          rw [mulw_eq]
          have h6 : n.toNat < len := by omega
          have := mul_lt (w := s) h6
          omega
        · omega
      · rename_i k s l
        obtain ⟨hw, hb⟩ := cond_some hb
        have hw := beq_eq hw
        obtain ⟨hok, hout⟩ := pureIf_out hb
        obtain ⟨g0, g1⟩ := two_true hok
        have g0 : 0 ≤ n := by simpa using g0
        have g1 : n < ((cnt s l.length : Nat) : Int) := by simpa using g1
        rw [cnt_eq] at g1
        simp only [Rel] at hx
        obtain ⟨h0, hm, ⟨h2, h3⟩ | ⟨b, o, cap, h2, h3, h4, h5, h6⟩⟩ := hx
        · subst h2; simp at g1; omega
        · subst h2
          refine ⟨_, [], _, hout, run_indexAt hty hte hu g0 g1, ?_⟩
          simp only [Rel]
          refine ⟨b, o, by rw [hw], ?_, h4, h5, h6⟩
          rw [mulw_eq]
          have h7 : n.toNat < l.length / s := by omega
          have := mul_lt (w := s) h7
          have h8 := Nat.div_mul_le_self l.length s
          omega
      · rename_i m cols
        obtain ⟨hw, hb⟩ := cond_some hb
        have hw := beq_eq hw
        obtain ⟨hok, hout⟩ := pureIf_out hb
        obtain ⟨g0, g1⟩ := two_true hok
        have g0 : 0 ≤ n := by simpa using g0
        have g1 : n < (m : Int) := by simpa using g1
        simp only [Rel] at hx
        obtain ⟨h0, ⟨h2, h3⟩ | ⟨b, o, cap, h2, h3, h4, h5, h6⟩⟩ := hx
        · subst h2; simp at g1; omega
        · subst h2
          refine ⟨_, [], _, hout, run_indexAt hty hte hu g0 g1, ?_⟩
          simp only [Rel]
          refine ⟨b, o + n.toNat * cols.length, by rw [mulw_eq, hw, Nat.add_zero], by omega, h4, h5, fun j hj => h6 n.toNat (by omega) j hj⟩
      · cases hb
  · rename_i ki n len e s0 b0 z0 ht
    have hvi := hi.int; subst hvi
    have hu := (hty _ _ ht).tk
    simp only [tkOK] at hu
    split at hb
    · cases hb
    · rename_i te hte
      have go : ∀ {y : V} {ext : Nat}, (bif Nat.ble (len * te.size) ext then pureIf (decide (0 ≤ n) && decide (n < (len : Int))) y else none) = some (true, out) → len * te.size ≤ ext ∧ 0 ≤ n ∧ n < (len : Int) ∧ out = { val := y } := by
        intro y ext hb
        obtain ⟨hw, hb⟩ := cond_some hb
        obtain ⟨hok, hout⟩ := pureIf_out hb
        obtain ⟨g0, g1⟩ := two_true hok
        exact ⟨ble_le hw, by simpa using g0, by simpa using g1, hout⟩
      split at hb
      · rename_i id off ext
        obtain ⟨g, g0, g1, hout⟩ := go hb
        simp only [Rel] at hx
        obtain ⟨b, m, C, h1, h2, rfl⟩ := hx
        refine ⟨_, [], _, hout, run_indexAtA hty hte hu g0 g1, ?_⟩
        simp only [Rel]
        refine ⟨b, m, C, h1, ?_, rfl⟩
        rw [mulw_eq]
        have := mul_lt (w := te.size) (show n.toNat < len by omega)
        omega
      · rename_i k l off ext
        obtain ⟨g, g0, g1, hout⟩ := go hb
        simp only [Rel] at hx
        obtain ⟨b, o, rfl, h2, hr⟩ := hx
        refine ⟨_, [], _, hout, run_indexAtA hty hte hu g0 g1, ?_⟩
        simp only [Rel]
        refine ⟨b, o, by rw [Nat.add_assoc], ?_, hr⟩
        rw [mulw_eq]
        have := mul_lt (w := te.size) (show n.toNat < len by omega)
        omega
      · rename_i l i off ext
        obtain ⟨g, g0, g1, hout⟩ := go hb
        simp only [Rel] at hx
        obtain ⟨b, o, rfl, h2, hr⟩ := hx
        refine ⟨_, [], _, hout, run_indexAtA hty hte hu g0 g1, ?_⟩
        simp only [Rel]
        refine ⟨b, o, by rw [Nat.add_assoc], ?_, hr⟩
        rw [mulw_eq]
        have := mul_lt (w := te.size) (show n.toNat < len by omega)
        omega
      · cases hb
  · cases hb

end
end Go.Proofs.Ytnjlpjdncejfcaa.Ev
