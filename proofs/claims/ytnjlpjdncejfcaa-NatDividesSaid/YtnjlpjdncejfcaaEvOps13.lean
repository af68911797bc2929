/-
  The evaluator's operations: all of them against the program's own. (A text of ours; no condition.)
-/
import Derived.Test.YtnjlpjdncejfcaaEvOps12
namespace Go.Proofs.Ytnjlpjdncejfcaa.Ev
set_option linter.unusedVariables false
set_option linter.unusedSimpArgs false

section
variable {P : Program} {F : Nat → Prop} {ρ : Rho} {h : Nat → Blk} {w : World} {nid : Nat} {ty : Nat → Option TI} {ev : Operand → V} {ae : Operand → Value} {out : Out} {M : Nat → Prop}

/-- An operation that leaves the world alone. -/
theorem same_ok {y : V} {tc : List Nat} {v : Value} {s : Sem Value} (hh : HeapRel F ρ h w) (hr : s.run P w = .ok v w) (hv : Rel ρ (av F (liveM ρ h)) w y v) : OpOK F ρ h w nid { val := y, touch := tc } ((do pure (.value (← s)) : Sem Next).run P w) :=
  OpOK.pure hh (v := v) (by simp [hr]) hv

theorem RelL.map_ev (he : ∀ x, Rel ρ M w (ev x) (ae x)) : ∀ (xs : List Operand), RelL ρ M w (xs.map ev) (xs.map ae)
  | [] => by simp [RelL]
  | x :: xs => by simp only [List.map_cons, RelL]; exact ⟨he x, RelL.map_ev he xs⟩

theorem appendV_ok {ts : Array TypeId} {e : Nat} {te : TI} (hat : 0 < te.bytes → 0 < te.size → AppT P ts e te) (hh : HeapRel F ρ h w) {d s : V} {vd vx : Value} (hd : Rel ρ (av F (liveM ρ h)) w d vd) (hx : Rel ρ (av F (liveM ρ h)) w s vx)
    (ha : appendV te h nid d s = some (true, out)) (hn1 : out.new.length = 1 → ρ nid = none) (t' : TypeId) (cs : Array Bool) :
    OpOK F ρ h w nid out ((builtin .append ts t' cs [vd, vx].toArray).run P w) := by
  have run_eq : ∀ {v : Value} {w' : World}, (Builtin.append_ ts t' #[vd, vx]).run P w = .ok v w' → (builtin .append ts t' cs [vd, vx].toArray).run P w = .ok (.value v) w' := by
    intro v w' h1
    simp [builtin, h1]
  unfold appendV at ha
  cases hbs : (Nat.blt 0 te.bytes && Nat.blt 0 te.size) with
  | false => simp [hbs] at ha
  | true =>
  simp only [hbs, Bool.not_true, cond_false] at ha
  obtain ⟨hb, hsz⟩ := two_true hbs
  have hb := blt_lt hb
  have hsz := blt_lt hsz
  have hat := hat hb hsz
  -- the two ends
  have fin0 : ∀ {x : Blk} {us : List Value} {m : Nat} {tc : List Nat}, vd = .slice none 0 0 → out = { val := .sw nid te.size, new := [x], touch := tc } → Src P w te.size m vx us → roomy m te.bytes = true → (us = [] → (∃ k, x = .ints k []) ∨ x = .vals []) →
      (∀ c : Array Value, us.length ≤ c.size → (∀ j, j < us.length → c[j]? = us[j]?) → Holds ρ (av F (liveM ρ h)) w us.length c x) → OpOK F ρ h w nid out ((builtin .append ts t' cs [vd, vx].toArray).run P w) := by
    intro x us m tc hv hout hs hroom hx0 hxx
    subst hout
    obtain ⟨v, w', ρ', r1, r2, r3, r4, r5, r6⟩ := append_nil hat t' hh (hn1 rfl) hs hroom hx0 hxx
    subst hv
    exact ⟨v, w', ρ', .inl (run_eq r1), r2, fun id hid => r3 id (by simp at hid; omega), r4, r5, r6⟩
  have fin1 : ∀ {x : Blk} {us : List Value} {m : Nat} {tc : List Nat} {id : Nat}, Rel ρ (av F (liveM ρ h)) w (.sw id te.size) vd → (h id).live → out = { val := .sw nid te.size, wr := [(id, .dead)], new := [x], touch := tc } → Src P w te.size m vx us →
      (∀ n : Nat, (∀ {c}, Holds ρ (av F (liveM ρ h)) w n c (h id) → roomy (n / te.size + m) te.bytes = true ∧
        ∀ c c' : Array Value, Holds ρ (av F (liveM ρ h)) w n c (h id) → n + us.length ≤ c'.size → (∀ j, j < n → c'[j]? = c[j]?) → (∀ j, j < us.length → c'[n + j]? = us[j]?) → Holds ρ (av F (liveM ρ h)) w (n + us.length) c' x)) →
      ((∃ k, h id = .ints k []) ∨ h id = .vals [] → roomy m te.bytes = true ∧ (us = [] → (∃ k, x = .ints k []) ∨ x = .vals []) ∧ (∀ c : Array Value, us.length ≤ c.size → (∀ j, j < us.length → c[j]? = us[j]?) → Holds ρ (av F (liveM ρ h)) w us.length c x)) →
      OpOK F ρ h w nid out ((builtin .append ts t' cs [vd, vx].toArray).run P w) := by
    intro x us m tc id hrel hl hout hs hrow hemp
    subst hout
    obtain ⟨_, ⟨b, n, C, cap, c, h1, h2, h3, h4, h5, ho, hszc, hold⟩ | ⟨h1, h2, hk⟩⟩ := sw_cells hh hrel hl
    · obtain ⟨q1, q2⟩ := hrow n hold
      subst h5
      obtain ⟨v, w', ρ', r1, r2, r3, r4, r5, r6⟩ := append_row hat t' hh (hn1 rfl) hs hl h1 h2 h3 h4 ho hszc (by have := hold.le; omega) q1 (x := x) (fun c' a1 a2 a3 => q2 c c' hold a1 a2 a3)
      exact ⟨v, w', ρ', .inl (run_eq r1), r2, fun id hid => r3 id (by simp at hid; omega), r4, r5, r6⟩
    · obtain ⟨q1, q2, q3⟩ := hemp hk
      subst h2
      obtain ⟨k1, k2⟩ := hh.kill id
      obtain ⟨v, w', ρ', r1, r2, r3, r4, r5, r6⟩ := append_nil hat t' k1 (hn1 rfl) hs q1 q2 (fun c a1 a2 => (q3 c a1 a2).mono (Sub.refl _) k2)
      exact ⟨v, w', ρ', .inl (run_eq r1), r2, fun id hid => r3 id (by simp at hid; omega), r4, r5, k2.trans r6⟩
  split at ha
  · rename_i k hk
    split at ha
    · cases ha
    · rename_i src tc hs
      obtain ⟨m, m1, m2, m3⟩ := srcInts_ok' (P := P) hh hsz hx hs
      have hsrc : Src P w te.size m vx (src.map (Value.int k)) := ⟨m1, by simpa using m2, toList_all _, m3⟩
      have hcells : ∀ c : Array Value, (src.map (Value.int k)).length ≤ c.size → (∀ j, j < (src.map (Value.int k)).length → c[j]? = (src.map (Value.int k))[j]?) → Holds ρ (av F (liveM ρ h)) w (src.map (Value.int k)).length c (.ints k src) := by
        intro c a1 a2
        refine ⟨by simp, a1, fun i hi => ?_⟩
        rw [a2 i (by simpa using hi), getD_map k src hi]
      split at ha
      · simp only [Option.some.injEq, Prod.mk.injEq] at ha
        obtain ⟨g1, g2⟩ := ha
        rw [cnt_eq, m2, div_of_mul hsz] at g1
        exact fin0 hd.c g2.symm hsrc g1 (fun e => .inl ⟨k, by simp at e; rw [e]⟩) hcells
      · rename_i id s1
        split at ha
        · rename_i k' l hid
          obtain ⟨h1, h2⟩ := cond_some ha
          obtain ⟨h3, h4⟩ := two_true h1
          have h3 := keq_eq h3
          have h4 := beq_eq h4
          subst h3; subst h4
          simp only [Option.some.injEq, Prod.mk.injEq] at h2
          obtain ⟨g1, g2⟩ := h2
          rw [cnt_eq] at g1
          refine fin1 hd (by rw [hid]; trivial) g2.symm hsrc (fun n {c} hc => ?_) (fun hk2 => ?_)
          · rw [hid] at hc
            have e1 := hc.len
            refine ⟨by rw [e1, m2, Nat.add_mul_div_right _ _ hsz] at g1; exact g1, fun c c' a0 a1 a2 a3 => ?_⟩
            rw [hid] at a0
            exact a0.grow_ints (by simp) a1 a2 (fun j hj => by rw [a3 j hj, getD_map k src (by simpa using hj)])
          · rw [hid] at hk2
            have hl : l = [] := by rcases hk2 with ⟨k2, hk2⟩ | hk2 <;> cases hk2; rfl
            subst hl
            refine ⟨by simpa [m2, div_of_mul hsz] using g1, fun e => .inl ⟨k, by simp at e; rw [e]; rfl⟩, by simpa using hcells⟩
        · cases ha
      · cases ha
  · split at ha
    · cases ha
    · rename_i src tc hs
      obtain ⟨m, us, m1, m2, m3, m4, m5⟩ := srcVals_ok' (P := P) hh hsz hx hs
      have hul := m3.length
      have hsrc : Src P w te.size m vx us := ⟨m1, by omega, m4, m5⟩
      have hcells : ∀ c : Array Value, us.length ≤ c.size → (∀ j, j < us.length → c[j]? = us[j]?) → Holds ρ (av F (liveM ρ h)) w us.length c (.vals src) := by
        intro c a1 a2
        refine ⟨hul, a1, ?_⟩
        have : c.toList.take us.length = us := by
          apply List.ext_getElem?
          intro j
          by_cases hj : j < us.length
          · rw [List.getElem?_take_of_lt hj, Array.getElem?_toList, a2 j hj]
          · rw [List.getElem?_eq_none (by simp; omega), List.getElem?_eq_none (by omega)]
        rw [this]; exact m3
      have hemp : us = [] → (∃ k, Blk.vals src = .ints k []) ∨ Blk.vals src = .vals [] := fun e => .inr (by
        subst e; simp at hul; rw [hul])
      split at ha
      · simp only [Option.some.injEq, Prod.mk.injEq] at ha
        obtain ⟨g1, g2⟩ := ha
        rw [cnt_eq, m2, div_of_mul hsz] at g1
        exact fin0 hd.c g2.symm hsrc g1 hemp hcells
      · rename_i id s1
        split at ha
        · rename_i l hid
          obtain ⟨h1, h2⟩ := cond_some ha
          have h4 := beq_eq h1
          subst h4
          simp only [Option.some.injEq, Prod.mk.injEq] at h2
          obtain ⟨g1, g2⟩ := h2
          rw [cnt_eq] at g1
          refine fin1 hd (by rw [hid]; trivial) g2.symm hsrc (fun n {c} hc => ?_) (fun hk2 => ?_)
          · rw [hid] at hc
            have e1 := hc.lenV
            refine ⟨by rw [e1, m2, Nat.add_mul_div_right _ _ hsz] at g1; exact g1, fun c c' a0 a1 a2 a3 => ?_⟩
            rw [hid] at a0
            exact a0.grow_vals m3 rfl a1 a2 a3
          · rw [hid] at hk2
            have hl : l = [] := by rcases hk2 with ⟨k2, hk2⟩ | hk2 <;> cases hk2; rfl
            subst hl
            refine ⟨by simpa [m2, div_of_mul hsz] using g1, by simpa using hemp, by simpa using hcells⟩
        · cases ha
      · cases ha

theorem max2_int (k : IntKind) (a b : Int) : Builtin.max2 (.int k a) (.int k b) = pure (.int k (mx2 a b)) := rfl
theorem min2_int (k : IntKind) (a b : Int) : Builtin.min2 (.int k a) (.int k b) = pure (.int k (mn2 a b)) := rfl

theorem builtin_ok (hty : TyOK P ty) (hh : HeapRel F ρ h w) {b : Builtin} {ts : Array TypeId} {xs : List V} {vs : List Value} (hr : RelL ρ (av F (liveM ρ h)) w xs vs) (ha : builtinV ty nid b ts.toList xs h = some (true, out)) (hn1 : out.new.length = 1 → ρ nid = none) (t' : TypeId) (cs : Array Bool) :
    OpOK F ρ h w nid out ((builtin b ts t' cs vs.toArray).run P w) := by
  unfold builtinV at ha
  split at ha
  · -- len
    rename_i x
    split at ha
    · rename_i t r hts
      split at ha
      · rename_i ti n tc ht hl
        obtain ⟨h1, h2⟩ := cond_some ha
        simp only [Option.some.injEq, Prod.mk.injEq, true_and] at h2
        subst h2
        cases vs with
        | nil => simp [RelL] at hr
        | cons v vs =>
          cases vs with
          | cons _ _ => simp [RelL] at hr
          | nil =>
            simp only [RelL] at hr
            have hts0 : ts[0]? = some t := by
              have : ts.toList[0]? = some t := by rw [hts]; rfl
              simpa using this
            have := len_ok (P := P) hty hh ht hr.1 hl h1 ts hts0 t'
            exact OpOK.pure hh (v := .int .i64 n) (by simp [builtin, this]) (Rel.of_c _)
      · cases ha
    · cases ha
  · obtain ⟨x, r, v, h1, h2, h3⟩ := minmax_ok (P := P) max2_int ha hr
    subst h1; subst h2
    exact OpOK.pure hh (v := v) (by simp [builtin, Builtin.max_, h3]) (Rel.of_c _)
  · obtain ⟨x, r, v, h1, h2, h3⟩ := minmax_ok (P := P) min2_int ha hr
    subst h1; subst h2
    exact OpOK.pure hh (v := v) (by simp [builtin, Builtin.min_, h3]) (Rel.of_c _)
  · -- append
    rename_i d s
    cases vs with
    | nil => simp [RelL] at hr
    | cons vd vs =>
      cases vs with
      | nil => simp [RelL] at hr
      | cons vx vs =>
        cases vs with
        | cons _ _ => simp [RelL] at hr
        | nil =>
          simp only [RelL] at hr
          obtain ⟨hd, hx, _⟩ := hr
          split at ha
          · rename_i t t2 r hts
            have hts0 : ts[0]? = some t := by
              have : ts.toList[0]? = some t := by rw [hts]; rfl
              simpa using this
            have hts1 : ts[1]? = some t2 := by
              have : ts.toList[1]? = some t2 := by rw [hts]; rfl
              simpa using this
            split at ha
            · rename_i e s0 b0 z0 tt2 ht ht2
              have hu := (hty _ _ ht).tk
              simp only [tkOK] at hu
              have key : ((∃ x, tt2.tk = .slice x) ∨ tt2.tk = .str) → (match ty e with | some ti => appendV ti h nid d s | none => none) = some (true, out) → OpOK F ρ h w nid out ((builtin .append ts t' cs [vd, vx].toArray).run P w) := by
                intro htk2 ha
                split at ha
                · rename_i te hte
                  have hat : 0 < te.bytes → 0 < te.size → AppT P ts e te := fun hb hs => by
                    refine ⟨⟨t, hts0, hu⟩, ?_, hty _ _ hte, hb, hs⟩
                    have hk2 := (hty _ _ ht2).tk
                    rcases htk2 with ⟨x, htk2⟩ | htk2 <;> rw [htk2] at hk2 <;> simp only [tkOK] at hk2
                    · exact ⟨t2, _, hts1, hk2, .inl ⟨x, rfl⟩⟩
                    · exact ⟨t2, _, hts1, hk2, .inr rfl⟩
                  exact appendV_ok hat hh hd hx ha hn1 t' cs
                · cases ha
              split at ha
              · rename_i y hy; exact key (.inl ⟨y, hy⟩) ha
              · rename_i hy; exact key (.inr hy) ha
              · cases ha
            · cases ha
          · cases ha
  · -- copy
    rename_i d s
    cases vs with
    | nil => simp [RelL] at hr
    | cons vd vs =>
      cases vs with
      | nil => simp [RelL] at hr
      | cons vx vs =>
        cases vs with
        | cons _ _ => simp [RelL] at hr
        | nil =>
          simp only [RelL] at hr
          obtain ⟨hd, hx, _⟩ := hr
          split at ha
          · rename_i t r hts
            have hts0 : ts[0]? = some t := by
              have : ts.toList[0]? = some t := by rw [hts]; rfl
              simpa using this
            split at ha
            · rename_i e s0 b0 z0 ht
              have hu := (hty _ _ ht).tk
              simp only [tkOK] at hu
              split at ha
              · rename_i te hte
                unfold copyV at ha
                split at ha
                · cases ha
                · rename_i k hk
                  split at ha
                  · cases ha
                  · rename_i src tc hs
                    split at ha
                    · rename_i id s1
                      split at ha
                      · rename_i k' l hid
                        obtain ⟨h1, h2⟩ := cond_some ha
                        obtain ⟨h3, h4⟩ := two_true h1
                        have h3 := keq_eq h3
                        have h4 := beq_eq h4
                        subst h3; subst h4
                        simp only [Option.some.injEq, Prod.mk.injEq, true_and] at h2
                        subst h2
                        exact copy_ok hty hh hts0 hu hte t' hk hs hx hd hid
                      · cases ha
                    · cases ha
              · cases ha
            · cases ha
          · cases ha
  · cases ha

theorem act_ok (hty : TyOK P ty) (hh : HeapRel F ρ h w) (he : ∀ x, Rel ρ (av F (liveM ρ h)) w (ev x) (ae x)) (hn : ∀ id, nid ≤ id → id < nid + out.new.length → ρ id = none) (op : Op) (o : Oper) (hop : o.op = op) (ha : act ty nid op ev h = some (true, out)) :
    OpOK F ρ h w nid out ((execOp ae o).run P w) := by
  have hn1 : out.new.length = 1 → ρ nid = none := fun h => hn nid (Nat.le_refl _) (by omega)
  unfold execOp
  rw [hop]
  cases op
  case move x =>
    have := pureV_out ha; subst this
    exact OpOK.pure hh rfl (he x)
  case assign x =>
    have := pureV_out ha; subst this
    exact OpOK.pure hh rfl (he x)
  case pick c a b =>
    simp only [act] at ha
    split at ha
    · rename_i b' hc
      have := pureV_out ha; subst this
      have h1 := he c
      rw [hc] at h1
      have := h1.bool
      exact OpOK.pure hh (v := if b' then ae a else ae b) (by simp [this, asBool]) (pick_ok (he a) (he b))
    · cases ha
  case alloc t =>
    simp only [act] at ha
    split at ha
    · rename_i ti ht
      simp only [Option.some.injEq, Prod.mk.injEq, true_and] at ha
      subst ha
      exact alloc_ok (hty _ _ ht) hh (hn1 rfl)
    · cases ha
  case box t x =>
    simp only [act] at ha
    split at ha
    · rename_i ti ht
      split at ha
      · rename_i vs hvs
        obtain ⟨h1, h2⟩ := cond_some ha
        simp only [Option.some.injEq, Prod.mk.injEq, true_and] at h2
        subst h2
        exact box_ok hh (hn1 rfl) (he x) hvs (beq_eq h1)
      · cases ha
    · cases ha
  case build t ps =>
    simp only [act] at ha
    split at ha
    · rename_i ti ht
      have key : ∀ cs, ((∃ fs, ti.tk = .struct fs ∧ fs.all (fun p => (ty p.1).isSome) = true ∧ fillV (fieldOf ty fs) (zeroV ti) (ps.toList.map fun p => (p.1, ev p.2)) = some cs) ∨
          (∃ n e te, ti.tk = .arr n e ∧ ty e = some te ∧ fillV (fun i => some (i * te.size, te.size)) (zeroV ti) (ps.toList.map fun p => (p.1, ev p.2)) = some cs)) → out = { val := .agg cs } → OpOK F ρ h w nid out ((do pure (.value (← Instr.build t (ps.map fun (i, x) => (i, ae x)))) : Sem Next).run P w) := by
        intro cs hb hout
        subst hout
        obtain ⟨v, h1, h2⟩ := build_ok (P := P) hty ht he hb
        exact same_ok (nid := nid) (tc := []) hh h1 h2
      split at ha
      · rename_i fs htk
        obtain ⟨h1, h2⟩ := cond_some ha
        split at h2
        · rename_i cs hf
          exact key cs (.inl ⟨fs, htk, h1, hf⟩) (pureV_out h2)
        · cases h2
      · rename_i n e htk
        split at ha
        · rename_i te hte
          split at ha
          · rename_i cs hf
            exact key cs (.inr ⟨n, e, te, htk, hte, hf⟩) (pureV_out ha)
          · cases ha
        · cases ha
      · cases ha
    · cases ha
  case buildSlice t len ps =>
    simp only [act] at ha
    split at ha
    · rename_i e s0 b0 z0 ht
      split at ha
      · rename_i te hte
        obtain ⟨h1, h2⟩ := cond_some ha
        split at h2
        · rename_i cs hf
          split at h2
          · rename_i b hm
            simp only [Option.some.injEq, Prod.mk.injEq, true_and] at h2
            subst h2
            exact buildSlice_ok hty hh (hn1 rfl) he ht rfl hte h1 hf hm
          · cases h2
        · cases h2
      · cases ha
    · cases ha
  case load t a =>
    simp only [act] at ha
    cases ht : ty t with
    | none => rw [ht] at ha; simp at ha
    | some ti =>
      rw [ht] at ha
      obtain ⟨y, tc, v, h1, h2, h3⟩ := load_ok (P := P) (y := .poison) hty hh (he a) ht ha
      subst h1
      exact same_ok hh h2 h3
  case store t a x =>
    simp only [act] at ha
    split at ha
    · rename_i ti id off ext ht hp
      split at ha
      · rename_i vs hvs
        obtain ⟨h1, h2⟩ := cond_some ha
        obtain ⟨h3, h4⟩ := two_true h1
        split at h2
        · rename_i b hb
          simp only [Option.some.injEq, Prod.mk.injEq, true_and] at h2
          subst h2
          have hx := he a
          rw [hp] at hx
          exact store_ok hty hh hx (he x) ht hvs (ble_le h3) (beq_eq h4) hb
        · cases h2
      · cases ha
    · cases ha
  case nilCheck x =>
    simp only [act] at ha
    have hx := he x
    split at ha
    · rename_i id off ext hp
      have := pureV_out ha; subst this
      rw [hp] at hx
      have hx' := hx
      simp only [Rel] at hx
      obtain ⟨b, n, C, _, _, hv⟩ := hx
      exact OpOK.pure hh (v := ae x) (by simp [hv]) hx'
    · rename_i k l off ext hp
      have := pureV_out ha; subst this
      rw [hp] at hx
      have hx' := hx
      simp only [Rel] at hx
      obtain ⟨b, o, hv, _⟩ := hx
      exact OpOK.pure hh (v := ae x) (by simp [hv]) hx'
    · rename_i l off ext hp
      have := pureV_out ha; subst this
      rw [hp] at hx
      have hx' := hx
      simp only [Rel] at hx
      obtain ⟨b, o, hv, _⟩ := hx
      exact OpOK.pure hh (v := ae x) (by simp [hv]) hx'
    · cases ha
  case binOp op t x y t2 =>
    simp only [act] at ha
    obtain ⟨v, h1, h2⟩ := binV_ok (P := P) hty x y ha (he x) (he y)
    subst h1
    exact same_ok (tc := []) hh h2 (Rel.of_c _)
  case unOp op t x =>
    simp only [act] at ha
    obtain ⟨v, h1, h2⟩ := unV_ok (P := P) ha (he x)
    subst h1
    exact same_ok (tc := []) hh h2 (Rel.of_c _)
  case convert s d x =>
    simp only [act] at ha
    exact conv_ok hty hh (he x) ha hn1
  case makeFunc fn first cap =>
    cases fn with
    | func f =>
      simp only [act] at ha
      have := pureV_out ha; subst this
      refine OpOK.pure hh (v := .func (.func f) (first.map ae) (cap.map ae)) (by simp [Instr.makeFunc]) ?_
      simp only [Rel]
      exact ⟨_, _, rfl, by simpa using RelL.map_ev he first.toList, by simpa using RelL.map_ev he cap.toList⟩
    | _ => cases ha
  case makeSlice t l c =>
    simp only [act] at ha
    split at ha
    · rename_i e s0 b0 z0 n m ht hl hc
      split at ha
      · rename_i te hte
        split at ha
        · rename_i k hk
          obtain ⟨h1, h2⟩ := cond_some ha
          simp only [Option.some.injEq, Prod.mk.injEq] at h2
          obtain ⟨h3, h4⟩ := h2
          subst h4
          have e1 := he l
          have e2 := he c
          rw [hl] at e1; rw [hc] at e2
          have := e1.int; have := e2.int
          simp only [*]
          exact makeSlice_ok hty hh (hn1 rfl) ht rfl hte hk h1 h3
        · cases ha
      · cases ha
    · cases ha
  case slice t x lo hi mx =>
    simp only [act] at ha
    obtain ⟨y, tc, v, h1, h2, h3⟩ := sliceV_ok (P := P) hty hh (he x) (OptRel.of he) (OptRel.of he) (OptRel.of he) ha
    subst h1
    exact same_ok hh h2 h3
  case fieldAddr t x f =>
    simp only [act] at ha
    split at ha
    · rename_i fs s0 b0 z0 ht
      obtain ⟨y, v, h1, h2, h3⟩ := fieldAddr_ok (P := P) hty ht rfl (he x) ha
      subst h1
      exact same_ok (tc := []) hh h2 h3
    · cases ha
  case field t x f =>
    simp only [act] at ha
    split at ha
    · rename_i fs s0 b0 z0 cs ht hp
      split at ha
      · rename_i t' fo hf
        split at ha
        · rename_i te hte
          split at ha
          · rename_i r hr
            obtain ⟨h1, h2⟩ := cond_some ha
            have := pureV_out h2; subst this
            have hx := he x
            rw [hp] at hx
            obtain ⟨v, h3, h4⟩ := field_ok (P := P) hty ht rfl hx hf hte (blt_lt h1) hr
            exact same_ok (tc := []) hh h3 h4
          · cases ha
        · cases ha
      · cases ha
    · cases ha
  case indexAddr t x i =>
    simp only [act] at ha
    obtain ⟨y, tc, v, h1, h2, h3⟩ := indexAt_ok (P := P) hty hh (he x) (he i) ha
    subst h1
    exact same_ok hh h2 h3
  case index t x i =>
    simp only [act] at ha
    obtain ⟨y, v, h1, h2, h3⟩ := indexOf_ok (P := P) hty (he x) (he i) ha
    subst h1
    exact same_ok (tc := []) hh h2 h3
  case extract t i =>
    simp only [act] at ha
    split at ha
    · rename_i vs hp
      split at ha
      · rename_i v hv
        have := pureV_out ha; subst this
        have hx := he t
        rw [hp] at hx
        obtain ⟨u, h1, h2⟩ := extract_ok (P := P) hx hv
        exact same_ok (tc := []) hh h1 h2
      · cases ha
    · cases ha
  case call c =>
    obtain ⟨callee, args, ts⟩ := c
    cases callee with
    | value f => simp [act] at ha
    | invoke r m => simp [act] at ha
    | builtin b =>
      simp only [act] at ha
      have hr := builtin_ok (P := P) hty hh (RelL.map_ev he args.toList) ha hn1 o.type (args.map fun | .const _ => true | _ => false)
      have e1 : (args.map ae) = (args.toList.map ae).toArray := by apply Array.ext'; simp
      simp only [resolve, Sem.run_bind, Sem.run_pure, Result.andThen_ok, invoke, e1]
      exact hr
  all_goals cases ha

end
end Go.Proofs.Ytnjlpjdncejfcaa.Ev
