/-
  The evaluator's operations, second part: those that leave the world alone. (A text of ours; no condition.)
-/
import Derived.Test.YtnjlpjdncejfcaaEvOps1
import Derived.Laws.StructEq
namespace Go.Proofs.Ytnjlpjdncejfcaa.Ev

section
variable {P : Program} {F : Nat → Prop} {ρ : Rho} {M : Nat → Prop} {h : Nat → Blk} {w : World} {nid : Nat}

theorem Rel.int {k : IntKind} {n : Int} {v : Value} (hv : Rel ρ M w (.c (.int k n)) v) : v = .int k n := by simpa only [Rel] using hv
theorem Rel.c {x v : Value} (hv : Rel ρ M w (.c x) v) : v = x := by simpa only [Rel] using hv
theorem Rel.of_c (x : Value) : Rel ρ M w (.c x) x := by simp only [Rel]

/-- Binary operations on whole numbers. -/
theorem intOp_ok {op : BinOp} {k : IntKind} {a b : Int} {out : Out} (hs : op ≠ .shl ∧ op ≠ .shr) (ha : intOp op k a b = some (true, out)) (t : Nat) (x y : Operand) :
    ∃ v, out = { val := .c v } ∧ ((do eqGuard op t x y (.int k a) (.int k b); binOp op t (.int k a) (.int k b)) : Sem Value).run P w = .ok v w := by
  cases op <;> simp only [intOp, pureV, pureIf, bitsOp, Option.some.injEq, Prod.mk.injEq, reduceCtorEq, true_and] at ha
  case quo =>
    obtain ⟨hb, ho⟩ := ha
    have hb' : b ≠ 0 := by simpa using hb
    exact ⟨_, ho.symm, by rw [eqGuard_at_int]; simp [binOp, Op.intDiv, hb']⟩
  case rem =>
    obtain ⟨hb, ho⟩ := ha
    have hb' : b ≠ 0 := by simpa using hb
    exact ⟨_, ho.symm, by rw [eqGuard_at_int]; simp [binOp, Op.intDiv, hb']⟩
  all_goals first
    | exact absurd rfl hs.1
    | exact absurd rfl hs.2
    | exact ⟨_, ha.symm, by rw [eqGuard_at_int]; simp [binOp, Op.intArith, Op.intCmp, Op.intBits]⟩

theorem shiftOp_ok {op : BinOp} {k yk : IntKind} {a b : Int} {out : Out} (ha : shiftOp op k a b = some (true, out)) (t : Nat) (x y : Operand) :
    ∃ v, out = { val := .c v } ∧ ((do eqGuard op t x y (.int k a) (.int yk b); binOp op t (.int k a) (.int yk b)) : Sem Value).run P w = .ok v w := by
  cases op <;> simp only [shiftOp, pureIf, Option.some.injEq, Prod.mk.injEq, reduceCtorEq] at ha
  all_goals
    obtain ⟨hb, ho⟩ := ha
    have hb' : ¬ b < 0 := by simp at hb; omega
    exact ⟨_, ho.symm, by rw [eqGuard_at_int]; simp [binOp, Op.shift, hb']⟩

theorem eq1_ok {ty : Nat → Option TI} (hty : TyOK P ty) {t d : Nat} {x y : V} {vx vy : Value} {e : Bool} (he : eq1 (ty t) x y = some e) (hx : Rel ρ M w x vx) (hy : Rel ρ M w y vy) :
    (Op.equalIn (d + 1) t vx vy).run P w = .ok e w ∧ (Go.isAgg t).run P w = .ok false w := by
  unfold eq1 at he
  split at he
  · rename_i k0 s0 b0 z0 ht
    have hk := (hty _ _ ht).tk
    simp only [tkOK] at hk
    split at he
    · rename_i k a k' b
      cases hkk : keq k k' with
      | false => simp [hkk] at he
      | true =>
        have := keq_eq hkk
        subst this
        simp [hkk] at he
        subst he
        have h1 := hx.int
        have h2 := hy.int
        subst h1; subst h2
        exact ⟨run_equalIn_int w d t k k0 a b hk, by simp [Go.isAgg, run_underlying hk]⟩
    · cases he
  · rename_i s0 b0 z0 ht
    have hk := (hty _ _ ht).tk
    simp only [tkOK] at hk
    split at he
    · rename_i a b
      have h1 := hx.c
      have h2 := hy.c
      subst h1; subst h2
      simp only [Option.some.injEq] at he
      subst he
      exact ⟨run_equalIn_bool w d t a b hk, by simp [Go.isAgg, run_underlying hk]⟩
    · cases he
  · cases he

/-- Cells that are alike: Go's way through a struct's fields. -/
theorem eqCells_ok {ty : Nat → Option TI} (hty : TyOK P ty) {d : Nat} {xs ys : Array Value} : ∀ (fs : List Field) (ts : List (Nat × Nat)) (i : Nat) (cx cy : List V) (e : Bool), eqCells ty ts i cx cy = some e →
    fs.map (fun f => (f.type, f.offset)) = ts → (∀ f ∈ fs, f.name ≠ "_") →
    RelL ρ M w cx (xs.toList.drop i) → RelL ρ M w cy (ys.toList.drop i) → (Op.eqFields (d + 1) xs ys fs).run P w = .ok e w
  | [], ts, i, cx, cy, e, he, hts, _, _, _ => by
    simp at hts
    subst hts
    cases cx <;> cases cy <;> simp [eqCells] at he
    subst he; simp [Op.eqFields]
  | f :: fs, ts, i, cx, cy, e, he, hts, hnm, hx, hy => by
    subst hts
    have hn := hnm f (by simp)
    have part_at : ∀ {zs : Array Value} {cz : List V} {z : V}, RelL ρ M w (z :: cz) (zs.toList.drop i) → ∃ v, zs[i]? = some v ∧ Rel ρ M w z v ∧ RelL ρ M w cz (zs.toList.drop (i + 1)) := by
      intro zs cz z hz
      have hne : zs.toList.drop i ≠ [] := by intro h0; rw [h0] at hz; simp [RelL] at hz
      obtain ⟨v, r, hd⟩ := List.exists_cons_of_ne_nil hne
      rw [hd] at hz
      simp only [RelL] at hz
      have h1 : zs.toList[i]? = some v := by
        have : (zs.toList.drop i)[0]? = some v := by rw [hd]; rfl
        simpa using this
      have h2 : zs.toList.drop (i + 1) = r := by
        have := congrArg List.tail hd
        simpa [List.tail_drop] using this
      exact ⟨v, by simpa using h1, hz.1, by rw [h2]; exact hz.2⟩
    cases cx with
    | nil => cases fs <;> cases cy <;> simp [eqCells] at he
    | cons x cx =>
    cases cy with
    | nil => cases fs <;> cases cx <;> simp [eqCells] at he
    | cons y cy =>
    obtain ⟨vx, gx, rx, tx⟩ := part_at hx
    obtain ⟨vy, gy, ry, ty'⟩ := part_at hy
    have fin : ∀ q s, f.offset = i → eq1 (ty f.type) x y = some q → (Op.eqFields (d + 1) xs ys fs).run P w = .ok s w → (Op.eqFields (d + 1) xs ys (f :: fs)).run P w = .ok (q && s) w := by
      intro q s ho hq ih
      obtain ⟨he1, hagg⟩ := eq1_ok (d := d) hty hq rx ry
      have px : (part f.type xs f.offset).run P w = .ok vx w := by simp [part, hagg, ho, gx]
      have py : (part f.type ys f.offset).run P w = .ok vy w := by simp [part, hagg, ho, gy]
      rw [Op.eqFields]
      simp only [if_pos hn, Sem.run_bind, px, py, he1, Result.andThen_ok]
      cases q
      · simp
      · simpa using ih
    have gen : ∀ q s, (Nat.beq f.offset i = true) → eq1 (ty f.type) x y = some q → eqCells ty (fs.map fun f => (f.type, f.offset)) (i + 1) cx cy = some s → (Op.eqFields (d + 1) xs ys (f :: fs)).run P w = .ok (q && s) w :=
      fun q s ho hq hs => fin q s (Nat.eq_of_beq_eq_true ho) hq (eqCells_ok hty fs _ (i + 1) cx cy s hs rfl (fun g hg => hnm g (by simp [hg])) tx ty')
    cases fs with
    | nil =>
      cases cx <;> cases cy <;> simp only [List.map_cons, List.map_nil, eqCells] at he
      · cases ho : Nat.beq f.offset i with
        | false => simp [ho] at he
        | true =>
          simp [ho] at he
          have := fin e true (Nat.eq_of_beq_eq_true ho) he (by simp [Op.eqFields])
          simpa using this
      all_goals (cases ho : Nat.beq f.offset i <;> simp [ho] at he)
    | cons g gs =>
      simp only [List.map_cons, eqCells] at he
      cases ho : Nat.beq f.offset i with
      | false => simp [ho] at he
      | true =>
        simp only [ho, cond_true] at he
        split at he
        · rename_i q s hq hs
          simp only [Option.some.injEq] at he
          subst he
          exact gen q s ho hq (by simpa using hs)
        · cases he

theorem eqStruct_ok {ty : Nat → Option TI} (hty : TyOK P ty) {t : Nat} {a b : List V} {e : Bool} {xs ys : Array Value} (he : eqStruct ty t a b = some e) (hx : RelL ρ M w a xs.toList) (hy : RelL ρ M w b ys.toList) :
    (Op.equalIn 10000 t (.agg xs) (.agg ys)).run P w = .ok e w ∧ P.eqGuardType P.depth t = false := by
  unfold eqStruct at he
  split at he
  · rename_i fs s0 b0 z0 ht
    have hk := (hty _ _ ht).tk
    have hq := (hty _ _ ht).eq rfl
    simp only [tkOK] at hk
    obtain ⟨fields, h1, h2, h3⟩ := hk
    have hf : P.fieldsOf t = fields := by simp [Program.fieldsOf, h1]
    refine ⟨?_, hq.2⟩
    rw [run_equalIn_struct (P := P) w 9999 t xs ys (by rw [hf]; exact h1) hq.1, hf]
    exact eqCells_ok hty fields.toList fs 0 a b e he h2 h3 (by simpa using hx) (by simpa using hy)
  · cases he

theorem binV_ok {ty : Nat → Option TI} (hty : TyOK P ty) {op : BinOp} {t : Nat} {x y : V} {vx vy : Value} {out : Out} (xo yo : Operand) (hb : binV ty t op x y = some (true, out)) (hx : Rel ρ M w x vx) (hy : Rel ρ M w y vy) :
    ∃ v, out = { val := .c v } ∧ ((do eqGuard op t xo yo vx vy; binOp op t vx vy) : Sem Value).run P w = .ok v w := by
  unfold binV at hb
  split at hb
  · have := hx.int; have := hy.int; subst_vars
    exact shiftOp_ok hb t xo yo
  · have := hx.int; have := hy.int; subst_vars
    exact shiftOp_ok hb t xo yo
  · rename_i o x y k a k' b h1 h2
    cases hk : keq k k' with
    | false => simp [hk] at hb
    | true =>
      have := keq_eq hk; subst this
      simp only [hk, cond_true] at hb
      have := hx.int; have := hy.int; subst_vars
      exact intOp_ok ⟨h1, h2⟩ hb t xo yo
  · split at hb
    · rename_i a b _ _ _ _ ht
      have hk := (hty _ _ ht).tk
      simp only [tkOK] at hk
      have := hx.c; have := hy.c; subst_vars
      simp only [pureV, Option.some.injEq, Prod.mk.injEq, true_and] at hb
      exact ⟨_, hb.symm, by rw [eqGuard_at_bool]; simp [run_eql_bool w t a b hk]⟩
    · cases hb
  · split at hb
    · rename_i a b _ _ _ _ ht
      have hk := (hty _ _ ht).tk
      simp only [tkOK] at hk
      have := hx.c; have := hy.c; subst_vars
      simp only [pureV, Option.some.injEq, Prod.mk.injEq, true_and] at hb
      exact ⟨_, hb.symm, by rw [eqGuard_at_bool]; simp [run_neq_bool w t a b hk]⟩
    · cases hb
  · rename_i a b
    have := hx.c; have := hy.c; subst_vars
    simp only [pureIf, Option.some.injEq, Prod.mk.injEq] at hb
    obtain ⟨h1, h2⟩ := hb
    refine ⟨_, h2.symm, ?_⟩
    have h1' : ¬ (((a.size + b.size : Nat) : Int) > IntKind.i64.max) := by simp at h1 ⊢; omega
    rw [eqGuard_at_string]
    simp only [binOp, Op.stringOp, Sem.run_bind, Sem.run_pure, Result.andThen_ok, if_neg h1']
  · rename_i a b
    have := hx.c; have := hy.c; subst_vars
    simp only [pureV, Option.some.injEq, Prod.mk.injEq, true_and] at hb
    exact ⟨_, hb.symm, by rw [eqGuard_at_string]; simp [binOp, Op.stringOp]⟩
  · rename_i a b
    have := hx.c; have := hy.c; subst_vars
    simp only [pureV, Option.some.injEq, Prod.mk.injEq, true_and] at hb
    exact ⟨_, hb.symm, by rw [eqGuard_at_string]; simp [binOp, Op.stringOp]⟩
  · split at hb
    · rename_i a b e he
      simp only [Rel] at hx hy
      obtain ⟨xs, rfl, hx⟩ := hx
      obtain ⟨ys, rfl, hy⟩ := hy
      obtain ⟨h1, h2⟩ := eqStruct_ok hty he hx hy
      simp only [pureV, Option.some.injEq, Prod.mk.injEq, true_and] at hb
      exact ⟨_, hb.symm, by rw [Sem.run_bind, run_eqGuard_agg w _ t xo yo xs ys h2, Result.andThen_ok, run_eql_struct, h1, Result.andThen_ok]⟩
    · cases hb
  · split at hb
    · rename_i a b e he
      simp only [Rel] at hx hy
      obtain ⟨xs, rfl, hx⟩ := hx
      obtain ⟨ys, rfl, hy⟩ := hy
      obtain ⟨h1, h2⟩ := eqStruct_ok hty he hx hy
      simp only [pureV, Option.some.injEq, Prod.mk.injEq, true_and] at hb
      exact ⟨_, hb.symm, by rw [Sem.run_bind, run_eqGuard_agg w _ t xo yo xs ys h2, Result.andThen_ok, run_neq_struct, h1, Result.andThen_ok]⟩
    · cases hb
  · cases hb

end
end Go.Proofs.Ytnjlpjdncejfcaa.Ev
