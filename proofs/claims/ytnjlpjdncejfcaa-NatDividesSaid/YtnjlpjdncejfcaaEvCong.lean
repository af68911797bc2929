/-
  The evaluator's operations hang on what they look at alone. (A text of ours; no condition.)
-/
import Derived.Test.YtnjlpjdncejfcaaEvOps13
namespace Go.Proofs.Ytnjlpjdncejfcaa.Ev
set_option linter.unusedVariables false
set_option linter.unusedSimpArgs false

section
variable {ty : Nat → Option TI} {nid : Nat} {h h' : Nat → Blk}

theorem rowOf_congr {x : V} {k : IntKind} {s : Nat} {l : List Int} {t : List Nat} (hr : rowOf h x = some (k, s, l, t)) (ht : ∀ id ∈ t, h' id = h id) : rowOf h' x = some (k, s, l, t) := by
  cases x <;> simp only [rowOf] at hr ⊢
  case sw id s' =>
    split at hr
    · rename_i k' l' hid
      simp only [Option.some.injEq, Prod.mk.injEq] at hr
      obtain ⟨rfl, rfl, rfl, rfl⟩ := hr
      rw [ht id (by simp), hid]
    · cases hr
  case sl id s' off len =>
    split at hr
    · rename_i k' l' hid
      simp only [Option.some.injEq, Prod.mk.injEq] at hr
      obtain ⟨rfl, rfl, rfl, rfl⟩ := hr
      rw [ht id (by simp), hid]
    · cases hr
  all_goals first | exact hr | cases hr

theorem rowV_congr {x : V} {s : Nat} {l : List V} {t : List Nat} (hr : rowV h x = some (s, l, t)) (ht : ∀ id ∈ t, h' id = h id) : rowV h' x = some (s, l, t) := by
  cases x <;> simp only [rowV] at hr ⊢
  case sw id s' =>
    split at hr
    · rename_i l' hid
      simp only [Option.some.injEq, Prod.mk.injEq] at hr
      obtain ⟨rfl, rfl, rfl⟩ := hr
      rw [ht id (by simp), hid]
    · cases hr
  all_goals first | exact hr | cases hr

theorem lenV_congr {x : V} {n : Nat} {t : List Nat} (hr : lenV h x = some (n, t)) (ht : ∀ id ∈ t, h' id = h id) : lenV h' x = some (n, t) := by
  unfold lenV at hr ⊢
  split at hr <;> first | exact hr | skip
  rename_i id s'
  split at hr
  all_goals first
    | cases hr; done
    | (simp only [Option.some.injEq, Prod.mk.injEq] at hr
       obtain ⟨rfl, rfl⟩ := hr
       rename_i hid
       try dsimp only
       rw [ht id (by simp), hid])

theorem srcInts_congr {k : IntKind} {s : Nat} {x : V} {l : List Int} {t : List Nat} (hr : srcInts h k s x = some (l, t)) (ht : ∀ id ∈ t, h' id = h id) : srcInts h' k s x = some (l, t) := by
  unfold srcInts at hr ⊢
  split at hr <;> first | exact hr | skip
  rename_i h1 h2
  split at hr
  · rename_i k' w' l' t' hq
    obtain ⟨a1, a2⟩ := cond_some hr
    simp only [Option.some.injEq, Prod.mk.injEq] at a2
    obtain ⟨rfl, rfl⟩ := a2
    rw [rowOf_congr hq ht]
    simp only [a1, cond_true]
  · cases hr

theorem srcVals_congr {s : Nat} {x : V} {l : List V} {t : List Nat} (hr : srcVals h s x = some (l, t)) (ht : ∀ id ∈ t, h' id = h id) : srcVals h' s x = some (l, t) := by
  unfold srcVals at hr ⊢
  split at hr <;> first | exact hr | skip
  rename_i h1
  split at hr
  · rename_i w' l' t' hq
    obtain ⟨a1, a2⟩ := cond_some hr
    simp only [Option.some.injEq, Prod.mk.injEq] at a2
    obtain ⟨rfl, rfl⟩ := a2
    rw [rowV_congr hq ht]
    simp only [a1, cond_true]
  · cases hr

theorem appendV_congr {ti : TI} {d s : V} {b : Bool} {out : Out} (hr : appendV ti h nid d s = some (b, out)) (ht : ∀ id ∈ out.touch, h' id = h id) : appendV ti h' nid d s = some (b, out) := by
  unfold appendV at hr ⊢
  cases hc : (!(Nat.blt 0 ti.bytes && Nat.blt 0 ti.size)) <;> rw [hc] at hr <;> simp only [cond_false, cond_true] at hr ⊢
  · split at hr
    · rename_i k hk
      try rw [hk]
      try dsimp only
      split at hr
      · cases hr
      · rename_i src t hsrc
        split at hr
        · simp only [Option.some.injEq, Prod.mk.injEq] at hr
          obtain ⟨rfl, rfl⟩ := hr
          rw [srcInts_congr hsrc ht]
        · rename_i id w'
          split at hr
          · rename_i k' l hid
            obtain ⟨a1, a2⟩ := cond_some hr
            simp only [Option.some.injEq, Prod.mk.injEq] at a2
            obtain ⟨rfl, rfl⟩ := a2
            simp only [List.mem_cons] at ht
            rw [srcInts_congr hsrc (fun id hid => ht id (.inr hid))]
            try dsimp only
            rw [ht id (.inl rfl), hid]
            simp only [a1, cond_true]
          · cases hr
        · cases hr
    · rename_i hk
      try rw [hk]
      try dsimp only
      split at hr
      · cases hr
      · rename_i src t hsrc
        split at hr
        · simp only [Option.some.injEq, Prod.mk.injEq] at hr
          obtain ⟨rfl, rfl⟩ := hr
          rw [srcVals_congr hsrc ht]
        · rename_i id w'
          split at hr
          · rename_i l hid
            obtain ⟨a1, a2⟩ := cond_some hr
            simp only [Option.some.injEq, Prod.mk.injEq] at a2
            obtain ⟨rfl, rfl⟩ := a2
            simp only [List.mem_cons] at ht
            rw [srcVals_congr hsrc (fun id hid => ht id (.inr hid))]
            try dsimp only
            rw [ht id (.inl rfl), hid]
            simp only [a1, cond_true]
          · cases hr
        · cases hr
  · cases hr

theorem copyV_congr {ti : TI} {d s : V} {b : Bool} {out : Out} (hr : copyV ti h d s = some (b, out)) (ht : ∀ id ∈ out.touch, h' id = h id) : copyV ti h' d s = some (b, out) := by
  unfold copyV at hr ⊢
  split at hr
  · cases hr
  · rename_i k hk
    try rw [hk]
    try dsimp only
    split at hr
    · cases hr
    · rename_i src t hsrc
      split at hr
      · rename_i id w'
        split at hr
        · rename_i k' l hid
          obtain ⟨a1, a2⟩ := cond_some hr
          simp only [Option.some.injEq, Prod.mk.injEq] at a2
          obtain ⟨rfl, rfl⟩ := a2
          simp only [List.mem_cons] at ht
          rw [srcInts_congr hsrc (fun id hid => ht id (.inr hid))]
          try dsimp only
          rw [ht id (.inl rfl), hid]
          simp only [a1, cond_true]
        · cases hr
      · cases hr

theorem pureIf_out' {b b' : Bool} {v : V} {out : Out} (hr : pureIf b v = some (b', out)) : b' = b ∧ out = { val := v } := by
  simp only [pureIf, Option.some.injEq, Prod.mk.injEq] at hr
  exact ⟨hr.1.symm, hr.2.symm⟩

theorem builtinV_congr {b : Builtin} {ts : List Nat} {xs : List V} {ok : Bool} {out : Out} (hr : builtinV ty nid b ts xs h = some (ok, out)) (ht : ∀ id ∈ out.touch, h' id = h id) : builtinV ty nid b ts xs h' = some (ok, out) := by
  unfold builtinV at hr ⊢
  split at hr
  · split at hr
    · split at hr
      · rename_i ti n tc hti hlen
        obtain ⟨a1, a2⟩ := cond_some hr
        simp only [Option.some.injEq, Prod.mk.injEq] at a2
        obtain ⟨rfl, rfl⟩ := a2
        simp only [hti, lenV_congr hlen ht, a1, cond_true]
      · cases hr
    · cases hr
  · exact hr
  · exact hr
  · split at hr
    · split at hr
      · rename_i e _ _ _ t2 hti ht2
        try simp only [hti, ht2]
        split at hr
        · rename_i htk
          try simp only [htk]
          split at hr
          · rename_i te hte
            try simp only [hte]
            exact appendV_congr hr ht
          · cases hr
        · rename_i htk
          try simp only [htk]
          split at hr
          · rename_i te hte
            try simp only [hte]
            exact appendV_congr hr ht
          · cases hr
        · cases hr
      · cases hr
    · cases hr
  · split at hr
    · split at hr
      · rename_i e _ _ _ hti
        try simp only [hti]
        split at hr
        · rename_i te hte
          try simp only [hte]
          exact copyV_congr hr ht
        · cases hr
      · cases hr
    · cases hr
  · cases hr

theorem indexAt_congr {t : Nat} {x i : V} {ok : Bool} {out : Out} (hr : indexAt ty t x i h = some (ok, out)) (ht : ∀ id ∈ out.touch, h' id = h id) : indexAt ty t x i h' = some (ok, out) := by
  unfold indexAt at hr ⊢
  split at hr
  · rename_i e _ _ _ hti
    try simp only [hti]
    split at hr
    · cases hr
    · rename_i te hte
      try simp only [hte]
      split at hr
      · rename_i id w'
        obtain ⟨a1, a2⟩ := cond_some hr
        split at a2
        all_goals first
          | cases a2; done
          | (rename_i hid
             simp only [Option.some.injEq, Prod.mk.injEq] at a2
             obtain ⟨rfl, rfl⟩ := a2
             simp only [List.mem_cons, List.not_mem_nil, or_false] at ht
             simp only [a1, cond_true, ht id rfl, hid])
      all_goals exact hr
  · exact hr
  · cases hr

theorem sliceV_congr {t : Nat} {x : V} {lo hi mx : Option V} {ok : Bool} {out : Out} (hr : sliceV ty t x lo hi mx h = some (ok, out)) (ht : ∀ id ∈ out.touch, h' id = h id) : sliceV ty t x lo hi mx h' = some (ok, out) := by
  unfold sliceV at hr ⊢
  split at hr
  · cases hr
  · rename_i ti hti
    try simp only [hti]
    cases hc : (hi.isNone && mx.isSome) <;> simp only [hc, cond_true, cond_false] at hr ⊢
    · split at hr
      · rename_i hlen
        split at hr
        · rename_i htk
          simp only [lenV]
          try simp only [htk]
          exact hr
        · cases hr
      · rename_i len tc hlen
        split at hr
        · rename_i l h1 m hl hh1 hm
          split at hr
          · rename_i s htk
            simp only [lenV] at hlen ⊢
            simp only [Option.some.injEq, Prod.mk.injEq] at hlen
            obtain ⟨rfl, rfl⟩ := hlen
            simp only [hl, hh1, hm, htk]
            exact hr
          · rename_i e id w' htk
            split at hr
            · rename_i te hte
              obtain ⟨a1, a2⟩ := cond_some hr
              simp only [Option.some.injEq, Prod.mk.injEq] at a2
              obtain ⟨rfl, rfl⟩ := a2
              simp only [lenV_congr hlen ht, hl, hh1, hm, htk, hte, a1, cond_true]
            · cases hr
          · rename_i e id w' off _ htk
            simp only [lenV] at hlen ⊢
            simp only [Option.some.injEq, Prod.mk.injEq] at hlen
            obtain ⟨rfl, rfl⟩ := hlen
            simp only [hl, hh1, hm, htk]
            exact hr
          · rename_i e k w' l0 htk
            simp only [lenV] at hlen ⊢
            simp only [Option.some.injEq, Prod.mk.injEq] at hlen
            obtain ⟨rfl, rfl⟩ := hlen
            simp only [hl, hh1, hm, htk]
            exact hr
          · rename_i e htk
            simp only [lenV] at hlen ⊢
            simp only [Option.some.injEq, Prod.mk.injEq] at hlen
            obtain ⟨rfl, rfl⟩ := hlen
            simp only [hl, hh1, hm, htk]
            exact hr
          · cases hr
        · cases hr
    · cases hr

theorem convV_congr {s d : Nat} {x : V} {ok : Bool} {out : Out} (hr : convV ty nid s d x h = some (ok, out)) (ht : ∀ id ∈ out.touch, h' id = h id) : convV ty nid s d x h' = some (ok, out) := by
  unfold convV at hr ⊢
  split at hr
  · rename_i ts td hts htd
    try simp only [hts, htd]
    split at hr
    · rename_i htk; try simp only [htk]
      exact hr
    · rename_i htk; try simp only [htk]
      exact hr
    · rename_i htk; try simp only [htk]
      exact hr
    · rename_i htk; try simp only [htk]
      exact hr
    · rename_i htk _ _ 
      split at hr
      · rename_i e hts2
        split at hr
        · rename_i w' l t hte hrow
          obtain ⟨a1, a2⟩ := cond_some hr
          simp only [Option.some.injEq, Prod.mk.injEq] at a2
          obtain ⟨rfl, rfl⟩ := a2
          have hrow' := rowOf_congr hrow ht
          simp only [hts2, hte, hrow', a1, cond_true]
        · cases hr
      · cases hr
    · cases hr
  · cases hr

theorem loadV_congr {ti : TI} {a : V} {ok : Bool} {out : Out} (hr : loadV ti a h = some (ok, out)) (ht : ∀ id ∈ out.touch, h' id = h id) : loadV ti a h' = some (ok, out) := by
  unfold loadV at hr ⊢
  split at hr
  · rename_i id off ext
    obtain ⟨a1, a2⟩ := cond_some hr
    split at a2
    · rename_i v hv
      simp only [Option.some.injEq, Prod.mk.injEq] at a2
      obtain ⟨rfl, rfl⟩ := a2
      simp only [List.mem_cons, List.not_mem_nil, or_false] at ht
      simp only [a1, cond_true, ht id rfl, hv]
    · cases a2
  · exact hr
  · exact hr
  · cases hr

theorem act_congr_h {ev : Operand → V} {op : Op} {ok : Bool} {out : Out} (hr : act ty nid op ev h = some (ok, out)) (ht : ∀ id ∈ out.touch, h' id = h id) : act ty nid op ev h' = some (ok, out) := by
  cases op
  case convert s d x => exact convV_congr hr ht
  case slice t x lo hi mx => exact sliceV_congr hr ht
  case indexAddr t x i => exact indexAt_congr hr ht
  case load t a =>
    simp only [act] at hr ⊢
    split at hr
    · exact loadV_congr hr ht
    · cases hr
  case call c =>
    obtain ⟨cl, args, ts⟩ := c
    cases cl
    case builtin b => exact builtinV_congr hr ht
    all_goals exact hr
  case store t a x =>
    simp only [act] at hr ⊢
    split at hr
    · rename_i ti id off ext hti ha
      split at hr
      · rename_i vs hvs
        obtain ⟨a1, a2⟩ := cond_some hr
        split at a2
        · rename_i b hb
          simp only [Option.some.injEq, Prod.mk.injEq] at a2
          obtain ⟨rfl, rfl⟩ := a2
          simp only [List.mem_cons, List.not_mem_nil, or_false] at ht
          simp only [hti, ha, hvs, a1, cond_true, ht id rfl, hb]
        · cases a2
      · cases hr
    · cases hr
  case makeFunc f _ _ => cases f <;> exact hr
  all_goals exact hr

theorem map_ev_congr {ev ev' : Operand → V} (ps : Array (Nat × Operand)) (he : ∀ x ∈ (ps.toList.map (·.2)).toArray, ev' x = ev x) : (ps.toList.map fun p => (p.1, ev' p.2)) = ps.toList.map fun p => (p.1, ev p.2) :=
  List.map_congr_left fun p hp => by rw [he p.2 (by simp only [List.mem_toArray, List.mem_map]; exact ⟨p, hp, rfl⟩)]

theorem act_congr_ev {ev ev' : Operand → V} {op : Op} {r : Res} (hr : act ty nid op ev h = r) (he : ∀ x ∈ op.operands, ev' x = ev x) : act ty nid op ev' h = r := by
  subst hr
  cases op <;> simp only [Op.operands] at he <;> try rfl
  case build t ps => simp only [act, map_ev_congr ps he]
  case buildSlice t n ps => simp only [act, map_ev_congr ps he]
  case makeFunc fn first cap =>
    cases fn <;> try rfl
    simp only [act]
    rw [List.map_congr_left (l := first.toList) (f := ev') (g := ev) fun x hx => he x (by simp at hx; simp [hx]), List.map_congr_left (l := cap.toList) (f := ev') (g := ev) fun x hx => he x (by simp at hx; simp [hx])]
  case call c =>
    obtain ⟨cl, args, ts⟩ := c
    cases cl <;> try rfl
    simp only [act]
    rw [List.map_congr_left (l := args.toList) (f := ev') (g := ev) fun x hx => he x (by simp at hx; simp [Call.operands, hx])]
  case slice t x lo hi mx =>
    simp only [act]
    cases lo <;> cases hi <;> cases mx <;> simp_all
  all_goals (simp only [act]; simp_all)

theorem map_evL_congr {ev ev' : Operand → V} (xs : List Operand) (he : ∀ x ∈ xs, ev' x = ev x) : xs.map ev' = xs.map ev := List.map_congr_left he

end
end Go.Proofs.Ytnjlpjdncejfcaa.Ev
