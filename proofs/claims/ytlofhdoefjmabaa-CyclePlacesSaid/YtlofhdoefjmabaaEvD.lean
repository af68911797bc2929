/-
  The evaluator's operations hang on what they look at alone. (A text of ours; no condition.)
-/
import Derived.Test.YtlofhdoefjmabaaEvC
import Derived.Orders
namespace Go.Proofs.Ytlofhdoefjmabaa.Ev
set_option linter.unusedVariables false
set_option linter.unusedSimpArgs false

section
variable {ty : Nat → Option TI} {nid : Nat} {h h' : Nat → Blk}

theorem rowOf_congr {x : V} {k : IntKind} {s : Nat} {l : List Int} {t : List Nat} (hr : rowOf h x = some (k, s, l, t)) (ht : ∀ id ∈ t, h' id = h id) : rowOf h' x = some (k, s, l, t) := by
  cases x <;> simp only [rowOf] at hr ⊢
  case sw id s' =>
    split at hr
    · rename_i k' l' hid
      simp only [Option.some.injEq, Prod.mk.injEq] at hr
      obtain ⟨rfl, rfl, rfl, rfl⟩ := hr
      rw [ht id (by simp), hid]
    · cases hr
  case sl id s' off len =>
    split at hr
    · rename_i k' l' hid
      simp only [Option.some.injEq, Prod.mk.injEq] at hr
      obtain ⟨rfl, rfl, rfl, rfl⟩ := hr
      rw [ht id (by simp), hid]
    · cases hr
  all_goals first | exact hr | cases hr

theorem rowV_congr {x : V} {s : Nat} {l : List V} {t : List Nat} (hr : rowV h x = some (s, l, t)) (ht : ∀ id ∈ t, h' id = h id) : rowV h' x = some (s, l, t) := by
  cases x <;> simp only [rowV] at hr ⊢
  case sw id s' =>
    split at hr
    · rename_i l' hid
      simp only [Option.some.injEq, Prod.mk.injEq] at hr
      obtain ⟨rfl, rfl, rfl⟩ := hr
      rw [ht id (by simp), hid]
    · cases hr
  all_goals first | exact hr | cases hr

theorem lenV_congr {x : V} {n : Nat} {t : List Nat} (hr : lenV h x = some (n, t)) (ht : ∀ id ∈ t, h' id = h id) : lenV h' x = some (n, t) := by
  unfold lenV at hr ⊢
  split at hr <;> first | exact hr | skip
  rename_i id s'
  split at hr
  all_goals first
    | cases hr; done
    | (simp only [Option.some.injEq, Prod.mk.injEq] at hr
       obtain ⟨rfl, rfl⟩ := hr
       rename_i hid
       try dsimp only
       rw [ht id (by simp), hid])

theorem srcInts_congr {k : IntKind} {s : Nat} {x : V} {l : List Int} {t : List Nat} (hr : srcInts h k s x = some (l, t)) (ht : ∀ id ∈ t, h' id = h id) : srcInts h' k s x = some (l, t) := by
  unfold srcInts at hr ⊢
  split at hr <;> first | exact hr | skip
  rename_i h1 h2
  split at hr
  · rename_i k' w' l' t' hq
    obtain ⟨a1, a2⟩ := cond_some hr
    simp only [Option.some.injEq, Prod.mk.injEq] at a2
    obtain ⟨rfl, rfl⟩ := a2
    rw [rowOf_congr hq ht]
    simp only [a1, cond_true]
  · cases hr

theorem srcVals_congr {s : Nat} {x : V} {l : List V} {t : List Nat} (hr : srcVals h s x = some (l, t)) (ht : ∀ id ∈ t, h' id = h id) : srcVals h' s x = some (l, t) := by
  unfold srcVals at hr ⊢
  split at hr <;> first | exact hr | skip
  rename_i h1
  split at hr
  · rename_i w' l' t' hq
    obtain ⟨a1, a2⟩ := cond_some hr
    simp only [Option.some.injEq, Prod.mk.injEq] at a2
    obtain ⟨rfl, rfl⟩ := a2
    rw [rowV_congr hq ht]
    simp only [a1, cond_true]
  · cases hr

theorem rowIn_congr {x : V} {k : IntKind} {s : Nat} {l : List Int} {t : List Nat} (hr : rowIn h x = some (k, s, l, t)) (ht : ∀ id ∈ t, h' id = h id) : rowIn h' x = some (k, s, l, t) := by
  cases x <;> simp only [rowIn] at hr ⊢
  case sw id s' =>
    split at hr
    · rename_i k' l' hid
      simp only [Option.some.injEq, Prod.mk.injEq] at hr
      obtain ⟨rfl, rfl, rfl, rfl⟩ := hr
      rw [ht id (by simp), hid]
    · cases hr
  all_goals first | exact hr | cases hr

theorem appendN_congr {ti : TI} {d s : V} {b : Bool} {out : Out} (hr : appendN ti h nid d s = some (b, out)) (ht : ∀ id ∈ out.touch, h' id = h id) : appendN ti h' nid d s = some (b, out) := by
  unfold appendN at hr
  split at hr
  · rename_i ids w1
    split at hr
    · rename_i e hids
      split at hr
      · rename_i k w l kl hrow
        obtain ⟨hg, hr2⟩ := cond_some hr
        clear hr
        unfold appendN
        dsimp only
        split at hr2
        · simp only [Option.some.injEq, Prod.mk.injEq] at hr2
          obtain ⟨rfl, rfl⟩ := hr2
          simp only [List.mem_cons] at ht
          rw [ht ids (.inl rfl), hids]
          dsimp only
          rw [rowIn_congr hrow (fun id hid => ht id (.inr hid))]
          dsimp only
          rw [hg, cond_true]
        · rename_i id w2
          split at hr2
          · rename_i k' w' rows hid
            obtain ⟨hq, hr3⟩ := cond_some hr2
            simp only [Option.some.injEq, Prod.mk.injEq] at hr3
            obtain ⟨rfl, rfl⟩ := hr3
            simp only [List.mem_cons] at ht
            rw [ht ids (.inr (.inl rfl)), hids]
            dsimp only
            rw [rowIn_congr hrow (fun id hid => ht id (.inr (.inr hid)))]
            dsimp only
            rw [hg, cond_true, ht id (.inl rfl), hid]
            dsimp only
            rw [hq, cond_true]
          · cases hr2
        · cases hr2
      · cases hr
    · cases hr
  · cases hr

theorem appendV_congr {ti : TI} {d s : V} {b : Bool} {out : Out} (hr : appendV ti h nid d s = some (b, out)) (ht : ∀ id ∈ out.touch, h' id = h id) : appendV ti h' nid d s = some (b, out) := by
  unfold appendV at hr ⊢
  cases hc : (!(Nat.blt 0 ti.bytes && Nat.blt 0 ti.size)) <;> rw [hc] at hr <;> simp only [cond_false, cond_true] at hr ⊢
  · split at hr
    · rename_i k hk
      try rw [hk]
      try dsimp only
      split at hr
      · cases hr
      · rename_i src t hsrc
        split at hr
        · simp only [Option.some.injEq, Prod.mk.injEq] at hr
          obtain ⟨rfl, rfl⟩ := hr
          rw [srcInts_congr hsrc ht]
        · rename_i id w'
          split at hr
          · rename_i k' l hid
            obtain ⟨a1, a2⟩ := cond_some hr
            simp only [Option.some.injEq, Prod.mk.injEq] at a2
            obtain ⟨rfl, rfl⟩ := a2
            simp only [List.mem_cons] at ht
            rw [srcInts_congr hsrc (fun id hid => ht id (.inr hid))]
            try dsimp only
            rw [ht id (.inl rfl), hid]
            simp only [a1, cond_true]
          · cases hr
        · cases hr
    · rename_i hk
      try rw [hk]
      try dsimp only
      cases hsl : ti.isSl <;> rw [hsl] at hr <;> simp only [cond_true, cond_false] at hr ⊢
      rotate_left
      · exact appendN_congr hr ht
      split at hr
      · cases hr
      · rename_i src t hsrc
        split at hr
        · simp only [Option.some.injEq, Prod.mk.injEq] at hr
          obtain ⟨rfl, rfl⟩ := hr
          rw [srcVals_congr hsrc ht]
        · rename_i id w'
          split at hr
          · rename_i l hid
            obtain ⟨a1, a2⟩ := cond_some hr
            simp only [Option.some.injEq, Prod.mk.injEq] at a2
            obtain ⟨rfl, rfl⟩ := a2
            simp only [List.mem_cons] at ht
            rw [srcVals_congr hsrc (fun id hid => ht id (.inr hid))]
            try dsimp only
            rw [ht id (.inl rfl), hid]
            simp only [a1, cond_true]
          · cases hr
        · cases hr
  · cases hr

theorem copyV_congr {ti : TI} {d s : V} {b : Bool} {out : Out} (hr : copyV ti h d s = some (b, out)) (ht : ∀ id ∈ out.touch, h' id = h id) : copyV ti h' d s = some (b, out) := by
  unfold copyV at hr ⊢
  split at hr
  · cases hr
  · rename_i k hk
    try rw [hk]
    try dsimp only
    split at hr
    · cases hr
    · rename_i src t hsrc
      split at hr
      · rename_i id w'
        split at hr
        · rename_i k' l hid
          obtain ⟨a1, a2⟩ := cond_some hr
          simp only [Option.some.injEq, Prod.mk.injEq] at a2
          obtain ⟨rfl, rfl⟩ := a2
          simp only [List.mem_cons] at ht
          rw [srcInts_congr hsrc (fun id hid => ht id (.inr hid))]
          try dsimp only
          rw [ht id (.inl rfl), hid]
          simp only [a1, cond_true]
        · cases hr
      · cases hr

theorem pureIf_out' {b b' : Bool} {v : V} {out : Out} (hr : pureIf b v = some (b', out)) : b' = b ∧ out = { val := v } := by
  simp only [pureIf, Option.some.injEq, Prod.mk.injEq] at hr
  exact ⟨hr.1.symm, hr.2.symm⟩

theorem builtinV_congr {b : Builtin} {ts : List Nat} {xs : List V} {ok : Bool} {out : Out} (hr : builtinV ty nid b ts xs h = some (ok, out)) (ht : ∀ id ∈ out.touch, h' id = h id) : builtinV ty nid b ts xs h' = some (ok, out) := by
  unfold builtinV at hr ⊢
  split at hr
  · split at hr
    · split at hr
      · rename_i ti n tc hti hlen
        obtain ⟨a1, a2⟩ := cond_some hr
        simp only [Option.some.injEq, Prod.mk.injEq] at a2
        obtain ⟨rfl, rfl⟩ := a2
        simp only [hti, lenV_congr hlen ht, a1, cond_true]
      · cases hr
    · cases hr
  · exact hr
  · exact hr
  · split at hr
    · split at hr
      · rename_i e _ _ _ t2 hti ht2
        try simp only [hti, ht2]
        split at hr
        · rename_i htk
          try simp only [htk]
          split at hr
          · rename_i te hte
            try simp only [hte]
            exact appendV_congr hr ht
          · cases hr
        · rename_i htk
          try simp only [htk]
          split at hr
          · rename_i te hte
            try simp only [hte]
            exact appendV_congr hr ht
          · cases hr
        · cases hr
      · cases hr
    · cases hr
  · split at hr
    · split at hr
      · rename_i e _ _ _ hti
        try simp only [hti]
        split at hr
        · rename_i te hte
          try simp only [hte]
          exact copyV_congr hr ht
        · cases hr
      · cases hr
    · cases hr
  · cases hr

theorem indexAt_congr {t : Nat} {x i : V} {ok : Bool} {out : Out} (hr : indexAt ty t x i h = some (ok, out)) (ht : ∀ id ∈ out.touch, h' id = h id) : indexAt ty t x i h' = some (ok, out) := by
  unfold indexAt at hr ⊢
  split at hr
  · rename_i e _ _ _ hti
    try simp only [hti]
    split at hr
    · cases hr
    · rename_i te hte
      try simp only [hte]
      split at hr
      · rename_i id w'
        obtain ⟨a1, a2⟩ := cond_some hr
        split at a2
        all_goals first
          | cases a2; done
          | (rename_i hid
             simp only [Option.some.injEq, Prod.mk.injEq] at a2
             obtain ⟨rfl, rfl⟩ := a2
             simp only [List.mem_cons, List.not_mem_nil, or_false] at ht
             simp only [a1, cond_true, ht id rfl, hid])
      all_goals exact hr
  · exact hr
  · cases hr

theorem sliceV_congr {t : Nat} {x : V} {lo hi mx : Option V} {ok : Bool} {out : Out} (hr : sliceV ty t x lo hi mx h = some (ok, out)) (ht : ∀ id ∈ out.touch, h' id = h id) : sliceV ty t x lo hi mx h' = some (ok, out) := by
  unfold sliceV at hr ⊢
  split at hr
  · cases hr
  · rename_i ti hti
    try simp only [hti]
    cases hc : (hi.isNone && mx.isSome) <;> simp only [hc, cond_true, cond_false] at hr ⊢
    · split at hr
      · rename_i hlen
        split at hr
        · rename_i htk
          simp only [lenV]
          try simp only [htk]
          exact hr
        · cases hr
      · rename_i len tc hlen
        split at hr
        · rename_i l h1 m hl hh1 hm
          split at hr
          · rename_i s htk
            simp only [lenV] at hlen ⊢
            simp only [Option.some.injEq, Prod.mk.injEq] at hlen
            obtain ⟨rfl, rfl⟩ := hlen
            simp only [hl, hh1, hm, htk]
            exact hr
          · rename_i e id w' htk
            split at hr
            · rename_i te hte
              obtain ⟨a1, a2⟩ := cond_some hr
              simp only [Option.some.injEq, Prod.mk.injEq] at a2
              obtain ⟨rfl, rfl⟩ := a2
              simp only [lenV_congr hlen ht, hl, hh1, hm, htk, hte, a1, cond_true]
            · cases hr
          · rename_i e id w' off _ htk
            simp only [lenV] at hlen ⊢
            simp only [Option.some.injEq, Prod.mk.injEq] at hlen
            obtain ⟨rfl, rfl⟩ := hlen
            simp only [hl, hh1, hm, htk]
            exact hr
          · rename_i e k w' l0 htk
            simp only [lenV] at hlen ⊢
            simp only [Option.some.injEq, Prod.mk.injEq] at hlen
            obtain ⟨rfl, rfl⟩ := hlen
            simp only [hl, hh1, hm, htk]
            exact hr
          · rename_i e htk
            simp only [lenV] at hlen ⊢
            simp only [Option.some.injEq, Prod.mk.injEq] at hlen
            obtain ⟨rfl, rfl⟩ := hlen
            simp only [hl, hh1, hm, htk]
            exact hr
          · cases hr
        · cases hr
    · cases hr

theorem convV_congr {s d : Nat} {x : V} {ok : Bool} {out : Out} (hr : convV ty nid s d x h = some (ok, out)) (ht : ∀ id ∈ out.touch, h' id = h id) : convV ty nid s d x h' = some (ok, out) := by
  unfold convV at hr ⊢
  split at hr
  · rename_i ts td hts htd
    try simp only [hts, htd]
    split at hr
    · rename_i htk; try simp only [htk]
      exact hr
    · rename_i htk; try simp only [htk]
      exact hr
    · rename_i htk; try simp only [htk]
      exact hr
    · rename_i htk; try simp only [htk]
      exact hr
    · rename_i htk _ _ 
      split at hr
      · rename_i e hts2
        split at hr
        · rename_i w' l t hte hrow
          obtain ⟨a1, a2⟩ := cond_some hr
          simp only [Option.some.injEq, Prod.mk.injEq] at a2
          obtain ⟨rfl, rfl⟩ := a2
          have hrow' := rowOf_congr hrow ht
          simp only [hts2, hte, hrow', a1, cond_true]
        · cases hr
      · cases hr
    · cases hr
  · cases hr

theorem loadV_congr {ti : TI} {a : V} {ok : Bool} {out : Out} (hr : loadV ti a h = some (ok, out)) (ht : ∀ id ∈ out.touch, h' id = h id) : loadV ti a h' = some (ok, out) := by
  unfold loadV at hr ⊢
  split at hr
  · rename_i id off ext
    obtain ⟨a1, a2⟩ := cond_some hr
    split at a2
    · rename_i v hv
      simp only [Option.some.injEq, Prod.mk.injEq] at a2
      obtain ⟨rfl, rfl⟩ := a2
      simp only [List.mem_cons, List.not_mem_nil, or_false] at ht
      simp only [a1, cond_true, ht id rfl, hv]
    · cases a2
  · exact hr
  · exact hr
  · cases hr

theorem lookupV_congr {t : Nat} {m i : V} {c ok : Bool} {out : Out} (hr : lookupV ty t m i c h = some (ok, out)) (ht : ∀ id ∈ out.touch, h' id = h id) : lookupV ty t m i c h' = some (ok, out) := by
  unfold lookupV at hr ⊢
  split at hr
  · rename_i kt et s0 b0 z0 id hti
    split at hr
    · rename_i k n ks vs tk te hid htk hte
      have key : h' id = h id := by
        refine ht id ?_
        split at hr
        · obtain ⟨_, a2⟩ := cond_some hr
          simp only [Option.some.injEq, Prod.mk.injEq] at a2
          obtain ⟨_, rfl⟩ := a2
          simp
        · cases hr
      simp only [key, hid]
      simp only [hti, htk, hte]
      exact hr
    · cases hr
  · cases hr

theorem rangeV_congr {t : Nat} {m : V} {ok : Bool} {out : Out} (hr : rangeV ty nid t m h = some (ok, out)) (ht : ∀ id ∈ out.touch, h' id = h id) : rangeV ty nid t m h' = some (ok, out) := by
  unfold rangeV at hr ⊢
  split at hr
  · rename_i kt et s0 b0 z0 id hti
    split at hr
    · rename_i k n ks vs hid
      simp only [Option.some.injEq, Prod.mk.injEq] at hr
      obtain ⟨rfl, rfl⟩ := hr
      have key : h' id = h id := ht id (by simp)
      simp only [key, hid, hti]
    · cases hr
  · cases hr

theorem entryV_congr {m : V} {ok : Bool} {out : Out} (hr : entryV m h = some (ok, out)) (ht : ∀ id ∈ out.touch, h' id = h id) : entryV m h' = some (ok, out) := by
  unfold entryV at hr ⊢
  split at hr
  · rename_i id ext
    split at hr
    · rename_i mid cnt rem cur hid
      split at hr
      · rename_i k n ks vs hmid
        simp only [Option.some.injEq, Prod.mk.injEq] at hr
        obtain ⟨rfl, rfl⟩ := hr
        have key : h' id = h id := ht id (by simp)
        have key2 : h' mid = h mid := ht mid (by simp)
        simp only [key, hid, key2, hmid]
      · cases hr
    · cases hr
  · cases hr

theorem mapUpdateV_congr {t : Nat} {m i x : V} {ok : Bool} {out : Out} (hr : mapUpdateV ty t m i x h = some (ok, out)) (ht : ∀ id ∈ out.touch, h' id = h id) : mapUpdateV ty t m i x h' = some (ok, out) := by
  unfold mapUpdateV at hr ⊢
  split at hr
  · rename_i kt et s0 b0 z0 id hti
    split at hr
    · rename_i k n ks vs tk hid htk
      have key : h' id = h id := by
        refine ht id ?_
        split at hr
        · split at hr
          · obtain ⟨_, a2⟩ := cond_some hr
            simp only [Option.some.injEq, Prod.mk.injEq] at a2
            obtain ⟨_, rfl⟩ := a2
            simp
          · cases hr
        · cases hr
      simp only [key, hid]
      simp only [hti, htk]
      exact hr
    · cases hr
  · cases hr

theorem mapEntryV_congr {t : Nat} {m i : V} {ok : Bool} {out : Out} (hr : mapEntryV ty t m i h = some (ok, out)) (ht : ∀ id ∈ out.touch, h' id = h id) : mapEntryV ty t m i h' = some (ok, out) := by
  unfold mapEntryV at hr ⊢
  split at hr
  · rename_i kt et s0 b0 z0 id hti
    split at hr
    · rename_i k n ks vs tk te hid htk hte
      have key : h' id = h id := by
        refine ht id ?_
        split at hr
        · split at hr
          · obtain ⟨_, a2⟩ := cond_some hr
            simp only [Option.some.injEq, Prod.mk.injEq] at a2
            obtain ⟨_, rfl⟩ := a2
            simp
          · cases hr
        · cases hr
      simp only [key, hid]
      simp only [hti, htk, hte]
      exact hr
    · cases hr
  · cases hr

theorem entryStoreV_congr {m s x : V} {ok : Bool} {out : Out} (hr : entryStoreV m s x h = some (ok, out)) (ht : ∀ id ∈ out.touch, h' id = h id) : entryStoreV m s x h' = some (ok, out) := by
  unfold entryStoreV at hr ⊢
  split at hr
  · rename_i id q
    split at hr
    · rename_i k n ks vs hid
      have key : h' id = h id := by
        refine ht id ?_
        split at hr
        · simp only [Option.some.injEq, Prod.mk.injEq] at hr
          obtain ⟨_, rfl⟩ := hr
          simp
        · cases hr
      simp only [key, hid]
      exact hr
    · cases hr
  · cases hr

theorem act_congr_h {ev : Operand → V} {op : Op} {ok : Bool} {out : Out} (hr : act ty nid op ev h = some (ok, out)) (ht : ∀ id ∈ out.touch, h' id = h id) : act ty nid op ev h' = some (ok, out) := by
  cases op
  case convert s d x => exact convV_congr hr ht
  case slice t x lo hi mx => exact sliceV_congr hr ht
  case indexAddr t x i => exact indexAt_congr hr ht
  case load t a =>
    simp only [act] at hr ⊢
    split at hr
    · exact loadV_congr hr ht
    · cases hr
  case call c =>
    obtain ⟨cl, args, ts⟩ := c
    cases cl
    case builtin b => exact builtinV_congr hr ht
    all_goals exact hr
  case store t a x =>
    simp only [act] at hr ⊢
    split at hr
    · rename_i ti id off ext hti ha
      split at hr
      · rename_i vs hvs
        obtain ⟨a1, a2⟩ := cond_some hr
        split at a2
        · rename_i b hb
          simp only [Option.some.injEq, Prod.mk.injEq] at a2
          obtain ⟨rfl, rfl⟩ := a2
          simp only [List.mem_cons, List.not_mem_nil, or_false] at ht
          simp only [hti, ha, hvs, a1, cond_true, ht id rfl, hb]
        · cases a2
      · cases hr
    · cases hr
  case makeFunc f _ _ => cases f <;> exact hr
  case makeMap t r => cases r <;> exact hr
  case range t x => exact rangeV_congr hr ht
  case entry x => exact entryV_congr hr ht
  case lookup t m i c => exact lookupV_congr hr ht
  case mapUpdate t m i x => exact mapUpdateV_congr hr ht
  case insert t m i x => exact mapUpdateV_congr hr ht
  case mapEntry t m i => exact mapEntryV_congr hr ht
  case entryStore t m s x => exact entryStoreV_congr hr ht
  all_goals exact hr

theorem map_ev_congr {ev ev' : Operand → V} (ps : Array (Nat × Operand)) (he : ∀ x ∈ (ps.toList.map (·.2)).toArray, ev' x = ev x) : (ps.toList.map fun p => (p.1, ev' p.2)) = ps.toList.map fun p => (p.1, ev p.2) :=
  List.map_congr_left fun p hp => by rw [he p.2 (by simp only [List.mem_toArray, List.mem_map]; exact ⟨p, hp, rfl⟩)]

theorem act_congr_ev {ev ev' : Operand → V} {op : Op} {r : Res} (hr : act ty nid op ev h = r) (he : ∀ x ∈ op.operands, ev' x = ev x) : act ty nid op ev' h = r := by
  subst hr
  cases op <;> simp only [Op.operands] at he <;> try rfl
  case build t ps => simp only [act, map_ev_congr ps he]
  case buildSlice t n ps => simp only [act, map_ev_congr ps he]
  case makeFunc fn first cap =>
    cases fn <;> try rfl
    simp only [act]
    rw [List.map_congr_left (l := first.toList) (f := ev') (g := ev) fun x hx => he x (by simp at hx; simp [hx]), List.map_congr_left (l := cap.toList) (f := ev') (g := ev) fun x hx => he x (by simp at hx; simp [hx])]
  case call c =>
    obtain ⟨cl, args, ts⟩ := c
    cases cl <;> try rfl
    simp only [act]
    rw [List.map_congr_left (l := args.toList) (f := ev') (g := ev) fun x hx => he x (by simp at hx; simp [Call.operands, hx])]
  case slice t x lo hi mx =>
    simp only [act]
    cases lo <;> cases hi <;> cases mx <;> simp_all
  case makeMap t r => cases r <;> rfl
  all_goals (simp only [act]; simp_all)

theorem map_evL_congr {ev ev' : Operand → V} (xs : List Operand) (he : ∀ x ∈ xs, ev' x = ev x) : xs.map ev' = xs.map ev := List.map_congr_left he

end
end Go.Proofs.Ytlofhdoefjmabaa.Ev

/-
  The evaluator's operations as steps between states; steps that change places. (A text of ours; no condition.)
-/
namespace Go.Proofs.Ytlofhdoefjmabaa.Ev
set_option linter.unusedVariables false
set_option linter.unusedSimpArgs false

/- Calls -/

theorem Alt.go_pick {R : Type} (k : V → List Blk → Option R) : ∀ a : Alt, a.go k = k a.pick.1 a.pick.2
  | .one _ _ => rfl
  | .two true _ _ _ _ => rfl
  | .two false _ _ _ _ => rfl

def CallR (tab : Nat → Option Entry) (nid f : Nat) (args : List V) (h : Nat → Blk) (out : Out) : Prop :=
  ∃ e at_ σ enc a, tab f = some e ∧ immArgs h e.imm args = at_ ∧ reach h 3 (addNew [] (refsL at_.1)) = σ ∧
    e.dec (renL (place · σ 0) at_.1) (σ.map fun i => renB (place · σ 0) (h i)) = some (some a, enc) ∧
    (enc a).pick.2.length ≤ σ.length + e.fresh ∧ σ.length ≤ (enc a).pick.2.length ∧ nodup σ = true ∧ meets σ at_.2 = false ∧ out = calleeOut σ at_.2 nid (enc a).pick.1 (enc a).pick.2

theorem callK_some {R : Type} {tab : Nat → Option Entry} {nid f : Nat} {args : List V} {h : Nat → Blk} {k : Out → Option R} {r : R}
    (hr : callK tab nid f args h k = some r) : ∃ out, CallR tab nid f args h out ∧ k out = some r := by
  unfold callK at hr
  split at hr
  · cases hr
  · rename_i e he
    dsimp only at hr
    split at hr
    · cases hr
    · rename_i m enc hm
      cases m with
      | none => cases hr
      | some a =>
        dsimp only [Option.bind] at hr
        rw [Alt.go_pick] at hr
        obtain ⟨h1, h2⟩ := cond_some hr
        simp only [Bool.and_eq_true, Bool.not_eq_true'] at h1
        obtain ⟨⟨⟨h3, h4⟩, h5⟩, h6⟩ := h1
        exact ⟨_, ⟨e, _, _, enc, a, he, rfl, rfl, hm, ble_le h3, ble_le h4, h5, h6, rfl⟩, h2⟩

theorem addNew_sub {i : Nat} : ∀ (r σ : List Nat), i ∈ σ → i ∈ addNew σ r
  | [], σ, h => h
  | j :: r, σ, h => by
    unfold addNew
    cases hc : σ.any (Nat.beq j) <;> simp only [cond_false, cond_true]
    · exact addNew_sub r _ (by simp [h])
    · exact addNew_sub r _ h

theorem addNew_in {i : Nat} : ∀ (r σ : List Nat), i ∈ r → i ∈ addNew σ r
  | j :: r, σ, h => by
    unfold addNew
    cases hc : σ.any (Nat.beq j) <;> simp only [cond_false, cond_true]
    · rcases List.mem_cons.mp h with rfl | h
      · exact addNew_sub r _ (by simp)
      · exact addNew_in r _ h
    · rcases List.mem_cons.mp h with rfl | h
      · simp only [List.any_eq_true] at hc
        obtain ⟨x, hx, hb⟩ := hc
        have := beq_eq hb
        subst this
        exact addNew_sub r _ hx
      · exact addNew_in r _ h

theorem reach_sub {h : Nat → Blk} {i : Nat} : ∀ (n : Nat) (σ : List Nat), i ∈ σ → i ∈ reach h n σ
  | 0, σ, hi => hi
  | n + 1, σ, hi => reach_sub n _ (addNew_sub _ _ hi)

theorem reach_congr {h h' : Nat → Blk} : ∀ (n : Nat) (σ : List Nat), (∀ id ∈ reach h n σ, h' id = h id) → reach h' n σ = reach h n σ
  | 0, σ, _ => rfl
  | n + 1, σ, he => by
    unfold reach at he ⊢
    have h1 : (σ.flatMap fun i => refsB (h' i)) = σ.flatMap fun i => refsB (h i) := by
      have : ∀ i ∈ σ, refsB (h' i) = refsB (h i) := fun i hi => by rw [he i (reach_sub n _ (addNew_sub _ _ hi))]
      clear he
      induction σ with
      | nil => rfl
      | cons j σ ih => simp only [List.flatMap_cons]; rw [this j (by simp), ih (fun i hi => this i (by simp [hi]))]
    rw [h1]
    exact reach_congr n _ he

mutual
theorem immV_congr {h h' : Nat → Blk} : ∀ (v : V), (∀ id, id ∈ refs (immV h v).1 ∨ id ∈ (immV h v).2 → h' id = h id) → immV h' v = immV h v
  | .sw id w, he => by
    have : h' id = h id := by
      refine he id ?_
      unfold immV
      split
      · exact .inr (by simp)
      · exact .inl (by simp [refs])
    unfold immV; rw [this]
  | .sl id w off len, he => by
    have : h' id = h id := by
      refine he id ?_
      unfold immV
      split
      · exact .inr (by simp)
      · exact .inl (by simp [refs])
    unfold immV; rw [this]
  | .agg cs, he => by
    unfold immV at he ⊢
    rw [immL_congr cs (fun id hid => he id (by simpa [refs] using hid))]
  | .c _, _ => rfl
  | .poison, _ => rfl
  | .ptr _ _ _, _ => rfl
  | .mref _, _ => rfl
  | .il _ _ _, _ => rfl
  | .iv _ _, _ => rfl
  | .ilp _ _ _ _, _ => rfl
  | .ivp _ _ _ _, _ => rfl
  | .tup _, _ => rfl
  | .fn _ _ _, _ => rfl
theorem immL_congr {h h' : Nat → Blk} : ∀ (vs : List V), (∀ id, id ∈ refsL (immL h vs).1 ∨ id ∈ (immL h vs).2 → h' id = h id) → immL h' vs = immL h vs
  | [], _ => rfl
  | v :: r, he => by
    unfold immL at he ⊢
    rw [immV_congr v (fun id hid => he id (by simp only [refsL, List.mem_append]; rcases hid with h | h <;> simp [h])), immL_congr r (fun id hid => he id (by simp only [refsL, List.mem_append]; rcases hid with h | h <;> simp [h]))]
end

theorem immArgs_congr {h h' : Nat → Blk} : ∀ (bs : List Bool) (vs : List V), (∀ id, id ∈ refsL (immArgs h bs vs).1 ∨ id ∈ (immArgs h bs vs).2 → h' id = h id) → immArgs h' bs vs = immArgs h bs vs
  | [], vs, _ => by simp [immArgs]
  | true :: bs, [], _ => by simp [immArgs]
  | false :: bs, [], _ => by simp [immArgs]
  | true :: bs, v :: r, he => by
    unfold immArgs at he ⊢
    rw [immV_congr v (fun id hid => he id (by simp only [refsL, List.mem_append]; rcases hid with h | h <;> simp [h])), immArgs_congr bs r (fun id hid => he id (by simp only [refsL, List.mem_append]; rcases hid with h | h <;> simp [h]))]
  | false :: bs, v :: r, he => by
    unfold immArgs at he ⊢
    rw [immArgs_congr bs r (fun id hid => he id (by simp only [refsL, List.mem_append]; rcases hid with h | h <;> simp [h]))]

theorem CallR.congr_h {tab : Nat → Option Entry} {nid f : Nat} {args : List V} {h h' : Nat → Blk} {out : Out} (hc : CallR tab nid f args h out) (ht : ∀ id ∈ out.touch, h' id = h id) : CallR tab nid f args h' out := by
  obtain ⟨e, at_, σ, enc, a, h1, h2, h3, h4, h5, h6, h7, h8, h9⟩ := hc
  have ht' : ∀ id, id ∈ σ ∨ id ∈ at_.2 → h' id = h id := fun id hid => ht id (by subst h9; simpa [calleeOut] using hid)
  have hσ : ∀ id ∈ refsL at_.1, id ∈ σ := fun id hid => by subst h3; exact reach_sub _ _ (addNew_in _ _ hid)
  refine ⟨e, at_, σ, enc, a, h1, ?_, ?_, ?_, h5, h6, h7, h8, h9⟩
  · rw [immArgs_congr _ _ (fun id hid => ?_)]
    · exact h2
    · rw [h2] at hid
      exact ht' id (hid.imp (hσ id) (fun x => x))
  · rw [reach_congr _ _ (fun id hid => ht' id (.inl (h3 ▸ hid)))]
    exact h3
  · rw [List.map_congr_left (g := fun i => renB (place · σ 0) (h i)) (fun i hi => by rw [ht' i (.inl hi)])]
    exact h4

/- Operations -/

def evF (T : Nat → V) : Operand → V
  | .tmp t => T t
  | .const v => vconst v
  | .global _ => .poison
  | .func f => .fn f [] []

theorem evO_eq (T : List (Nat × V)) : evO T = evF (look T) := by funext x; cases x <;> rfl

def ExecR (E : Env) (nid : Nat) (o : Oper) (T : Nat → V) (h : Nat → Blk) (out : Out) : Prop :=
  (∃ f args ts g first cap, o.op = .call ⟨.value f, args, ts⟩ ∧ evF T f = .fn g first cap ∧ CallR E.tab nid g (first ++ (args.toList.map (evF T) ++ cap)) h out) ∨
  act E.ty nid o.op (evF T) h = some (true, out)

theorem evExec_some {R : Type} {E : Env} {nid : Nat} {o : Oper} {T : List (Nat × V)} {h : Nat → Blk} {k : Out → Option R} {r : R} (hr : evExec E nid o T h k = some r) : ∃ out, ExecR E nid o (look T) h out ∧ k out = some r := by
  unfold evExec at hr
  split at hr
  · rename_i f args ts hop
    rw [evO_eq] at hr
    split at hr
    · rename_i g first cap hf
      obtain ⟨out, h1, h2⟩ := callK_some hr
      exact ⟨out, .inl ⟨f, args, ts, g, first, cap, hop, hf, h1⟩, h2⟩
    · cases hr
  · rw [evO_eq] at hr
    split at hr
    · cases hr
    · rename_i ok out ha
      obtain ⟨h1, h2⟩ := cond_some hr
      subst h1
      exact ⟨out, .inr ha, h2⟩

theorem ExecR.congr {E : Env} {nid : Nat} {o : Oper} {T T' : Nat → V} {h h' : Nat → Blk} {out : Out} (hx : ExecR E nid o T h out) (hT : ∀ x ∈ o.op.operands, evF T' x = evF T x) (ht : ∀ id ∈ out.touch, h' id = h id) : ExecR E nid o T' h' out := by
  rcases hx with ⟨f, args, ts, g, first, cap, h1, h2, h3⟩ | ha
  · rw [h1] at hT
    refine .inl ⟨f, args, ts, g, first, cap, h1, ?_, ?_⟩
    · rw [hT f (by simp [Op.operands, Call.operands])]; exact h2
    · rw [List.map_congr_left (g := evF T) (fun x hx => hT x (by simp at hx; simp [Op.operands, Call.operands, hx]))]
      exact h3.congr_h ht
  · exact .inr (act_congr_ev (act_congr_h ha ht) hT)

def wantF (all : List Oper) (T : Nat → V) (o : Oper) : Option Bool := match o.guard with
  | none => some true
  | some (j, want) => match (all[j]?).bind (·.dst) with
    | none => none
    | some g => match T g with
      | .c (.bool b) => some (b == want)
      | .c (.tuple _) => some false
      | _ => none

def putF (T : Nat → V) (d : Option Nat) (v : V) : Nat → V := match d with
  | some d => fun t => if t = d then v else T t
  | none => T

theorem look_put (T : List (Nat × V)) (d : Option Nat) (v : V) : look (putT T d v) = putF (look T) d v := by
  cases d with
  | none => rfl
  | some d =>
    funext t
    simp only [putT, putF, look]
    cases hb : Nat.beq d t <;> simp only [cond_false, cond_true]
    · rw [if_neg (fun e => by subst e; simp at hb)]
    · rw [if_pos (beq_eq hb).symm]

theorem look_same (T : List (Nat × V)) (g : Nat) (v : V) (h : look T g = v) : look ((g, v) :: T) = look T := by
  funext t
  simp only [look]
  cases hb : Nat.beq g t <;> simp only [cond_false, cond_true]
  rw [← beq_eq hb, h]

def newL (nid : Nat) : List Blk → List (Nat × Blk)
  | [] => []
  | b :: r => (nid, b) :: newL (nid + 1) r

theorem updW_append (h : Nat → Blk) : ∀ (a b : List (Nat × Blk)), updW h (a ++ b) = updW (updW h a) b := by
  intro a
  induction a generalizing h with
  | nil => intro b; rfl
  | cons p a ih => intro b; obtain ⟨i, x⟩ := p; funext j; simp only [List.cons_append, updW]; rw [ih]

theorem updN_eq (h : Nat → Blk) (nid : Nat) (bs : List Blk) : updN h nid bs = updW h (newL nid bs) := by
  induction bs generalizing h nid with
  | nil => rfl
  | cons b r ih => funext j; simp only [newL, updN, updW]; rw [ih]

theorem outH_eq (h : Nat → Blk) (nid : Nat) (out : Out) : outH h nid out = updW h (out.wr ++ newL nid out.new) := by
  unfold outH; rw [updN_eq, updW_append]

theorem newL_fst (nid : Nat) (bs : List Blk) : (newL nid bs).map (·.1) = (List.range bs.length).map (nid + ·) := by
  induction bs generalizing nid with
  | nil => rfl
  | cons b r ih =>
    simp only [newL, List.map_cons, List.length_cons, List.range_succ_eq_map, List.map_map, ih]
    simp [Function.comp_def, Nat.add_assoc, Nat.add_comm 1]

theorem updW_other {h : Nat → Blk} {ups : List (Nat × Blk)} {j : Nat} (hj : j ∉ ups.map (·.1)) : updW h ups j = h j := by
  induction ups generalizing h with
  | nil => rfl
  | cons p r ih =>
    obtain ⟨i, b⟩ := p
    simp only [List.map_cons, List.mem_cons, not_or] at hj
    simp only [updW]
    rw [ih hj.2, if_neg hj.1]

theorem updW_mem {h h' : Nat → Blk} {ups : List (Nat × Blk)} {j : Nat} (hj : j ∈ ups.map (·.1)) : updW h ups j = updW h' ups j := by
  induction ups generalizing h h' with
  | nil => cases hj
  | cons p r ih =>
    obtain ⟨i, b⟩ := p
    simp only [updW]
    by_cases hr : j ∈ r.map (·.1)
    · exact ih hr
    · simp only [List.map_cons, List.mem_cons, hr, or_false] at hj
      rw [updW_other hr, updW_other hr, if_pos hj, if_pos hj]

theorem updW_comm {h : Nat → Blk} {a b : List (Nat × Blk)} (hd : ∀ j ∈ a.map (·.1), j ∉ b.map (·.1)) : updW (updW h a) b = updW (updW h b) a := by
  funext j
  by_cases ha : j ∈ a.map (·.1)
  · rw [updW_other (hd j ha)]; exact updW_mem ha
  · rw [updW_other (ups := a) ha]
    by_cases hb : j ∈ b.map (·.1)
    · exact updW_mem hb
    · rw [updW_other hb, updW_other hb, updW_other ha]

theorem putF_comm {T : Nat → V} {x y : Option Nat} {v u : V} (h : ∀ d, x = some d → y ≠ some d) : putF (putF T x v) y u = putF (putF T y u) x v := by
  cases x with
  | none => rfl
  | some d =>
    cases y with
    | none => rfl
    | some e =>
      have hne : d ≠ e := fun he => h d rfl (he ▸ rfl)
      funext t
      simp only [putF]
      by_cases h1 : t = e
      · subst h1; rw [if_pos rfl, if_neg (Ne.symm hne), if_pos rfl]
      · rw [if_neg h1]; by_cases h2 : t = d
        · rw [if_pos h2, if_pos h2]
        · rw [if_neg h2, if_neg h2, if_neg h1]

/-- What an operation leaves: its value, what it looked at, what it wrote. -/
structure Row where
  i : Nat
  v : V
  touch : List Nat
  ups : List (Nat × Blk)
def Row.fp (r : Row) : Fp := ⟨r.i, r.touch, r.ups.map (·.1)⟩

/-- An operation in its place: index, its new blocks' first name. -/
structure Item where
  i : Nat
  nid : Nat
  o : Oper

def items (tab : Nat → Option Entry) : Nat → Nat → List Oper → List Item
  | _, _, [] => []
  | i, nid, o :: r => ⟨i, nid, o⟩ :: items tab (i + 1) (nid + room tab o.op) r

def CoreR (E : Env) (all : List Oper) (len : Nat) (x : Item) (T : Nat → V) (h : Nat → Blk) (r : Row) : Prop :=
  r.i = x.i ∧ dstOk E.ntmps x.o.dst = true ∧
  ((wantF all T x.o = some true ∧ ∃ out, ExecR E x.nid x.o T h out ∧ r = ⟨x.i, out.val, out.touch, out.wr ++ newL x.nid out.new⟩ ∧ out.new.length ≤ room E.tab x.o.op ∧ x.nid + room E.tab x.o.op ≤ len ∧ ∀ p ∈ out.wr, p.1 < len) ∨
   (wantF all T x.o = some false ∧ r = ⟨x.i, undefV, [], []⟩))

def Tr (E : Env) (all : List Oper) (len : Nat) : List Item → (Nat → V) → (Nat → Blk) → List Row → (Nat → V) → (Nat → Blk) → Prop
  | [], T, h, [], T', h' => T' = T ∧ h' = h
  | x :: xs, T, h, r :: rs, T', h' => CoreR E all len x T h r ∧ Tr E all len xs (putF T x.o.dst r.v) (updW h r.ups) rs T' h'
  | _, _, _, _, _, _ => False

/- The two kinds of states are alike. -/
theorem setBlk_length : ∀ (H : List Blk) (i : Nat) (x : Blk), (setBlk H i x).length = H.length
  | [], _, _ => rfl
  | _ :: _, 0, _ => rfl
  | _ :: r, n + 1, x => by simp [setBlk, setBlk_length r]
theorem wrs_length : ∀ (ups : List (Nat × Blk)) (H : List Blk), (wrs H ups).length = H.length
  | [], _ => rfl
  | (i, b) :: r, H => by simp [wrs, wrs_length r, setBlk_length]
theorem news_eq : ∀ (bs : List Blk) (H : List Blk) (nid : Nat), news H nid bs = wrs H (newL nid bs)
  | [], _, _ => rfl
  | b :: r, H, nid => by simp only [news, newL, wrs]; exact news_eq r _ _
theorem wrs_append : ∀ (a b : List (Nat × Blk)) (H : List Blk), wrs (wrs H a) b = wrs H (a ++ b)
  | [], _, _ => rfl
  | (i, x) :: r, b, H => by simp only [wrs, List.cons_append]; exact wrs_append r b _
theorem blkAt_set : ∀ (H : List Blk) (i : Nat) (x : Blk), i < H.length → blkAt (setBlk H i x) = fun j => if j = i then x else blkAt H j
  | [], _, _, h => by simp at h
  | b :: r, 0, x, _ => by funext j; cases j <;> simp [setBlk, blkAt]
  | b :: r, n + 1, x, h => by
    funext j
    cases j with
    | zero => simp [setBlk, blkAt]
    | succ j => simp [setBlk, blkAt, blkAt_set r n x (by simpa using h)]
theorem blkAt_wrs : ∀ (ups : List (Nat × Blk)) (H : List Blk), (∀ p ∈ ups, p.1 < H.length) → blkAt (wrs H ups) = updW (blkAt H) ups
  | [], _, _ => rfl
  | (i, b) :: r, H, h => by
    simp only [wrs]
    rw [blkAt_wrs r _ (fun p hp => by rw [setBlk_length]; exact h p (by simp [hp])), blkAt_set _ _ _ (h (i, b) (by simp))]
    rfl

theorem newL_lt {nid : Nat} {bs : List Blk} {p : Nat × Blk} (hp : p ∈ newL nid bs) : nid ≤ p.1 ∧ p.1 < nid + bs.length := by
  have : p.1 ∈ (newL nid bs).map (·.1) := List.mem_map_of_mem hp
  rw [newL_fst] at this
  simp at this
  obtain ⟨a, h1, h2⟩ := this
  omega

/-- The evaluator's row of operations is a chain of steps. -/
theorem evOps_some {R : Type} {E : Env} {all : List Oper} {r : R} {k : St → List Fp → Option R} : ∀ (rest : List Oper) (i nid : Nat) (T : List (Nat × V)) (H : List Blk) (fps : List Fp), evOps E all i rest nid T H fps k = some r →
    ∃ rs T' H', Tr E all H.length (items E.tab i nid rest) (look T) (blkAt H) rs (look T') (blkAt H') ∧ H'.length = H.length ∧ k ⟨T', H'⟩ ((rs.map Row.fp).reverse ++ fps) = some r := by
  intro rest
  induction rest with
  | nil => intro i nid T H fps hr; exact ⟨[], T, H, ⟨rfl, rfl⟩, rfl, hr⟩
  | cons o rest ih =>
    intro i nid T H fps hr
    unfold evOps at hr
    dsimp only at hr
    obtain ⟨hd, hr⟩ := cond_some hr
    have hgo : ∀ T1 : List (Nat × V), look T1 = look T → wantF all (look T) o = some true → (evExec E nid o T1 (blkAt H) fun out => bif okIds H nid (room E.tab o.op) out then
        evOps E all (i + 1) rest (nid + room E.tab o.op) (putT T1 o.dst out.val) (news (wrs H out.wr) nid out.new)
          (⟨i, out.touch, out.wr.map (·.1) ++ (List.range out.new.length).map (nid + ·)⟩ :: fps) k
        else none) = some r → ∃ rs T' H', Tr E all H.length (items E.tab i nid (o :: rest)) (look T) (blkAt H) rs (look T') (blkAt H') ∧ H'.length = H.length ∧ k ⟨T', H'⟩ ((rs.map Row.fp).reverse ++ fps) = some r := by
      intro T1 hT1 hw hr
      obtain ⟨out, hx, hr⟩ := evExec_some hr
      obtain ⟨hok, hr⟩ := cond_some hr
      simp only [okIds, Bool.and_eq_true, List.all_eq_true] at hok
      obtain ⟨⟨o1, o2⟩, o3⟩ := hok
      have o1 := ble_le o1
      have o2 := ble_le o2
      rw [news_eq, wrs_append] at hr
      obtain ⟨rs, T', H', h1, h2, h3⟩ := ih _ _ _ _ _ hr
      rw [wrs_length] at h1 h2
      rw [blkAt_wrs _ _ (fun p hp => by
        rcases List.mem_append.mp hp with hp | hp
        · exact blt_lt (o3 p hp)
        · have := newL_lt hp; omega)] at h1
      rw [look_put, hT1] at h1
      refine ⟨⟨i, out.val, out.touch, out.wr ++ newL nid out.new⟩ :: rs, T', H', ⟨⟨rfl, hd, .inl ⟨hw, out, hT1 ▸ hx, rfl, o1, o2, fun p hp => blt_lt (o3 p hp)⟩⟩, h1⟩, h2, ?_⟩
      simp only [List.map_cons, List.reverse_cons, List.append_assoc, List.singleton_append]
      unfold Row.fp
      simp only [List.map_append, newL_fst]
      exact h3
    have hskip : ∀ T1 : List (Nat × V), look T1 = look T → wantF all (look T) o = some false → evOps E all (i + 1) rest (nid + room E.tab o.op) (putT T1 o.dst undefV) H (⟨i, [], []⟩ :: fps) k = some r →
        ∃ rs T' H', Tr E all H.length (items E.tab i nid (o :: rest)) (look T) (blkAt H) rs (look T') (blkAt H') ∧ H'.length = H.length ∧ k ⟨T', H'⟩ ((rs.map Row.fp).reverse ++ fps) = some r := by
      intro T1 hT1 hw hr
      obtain ⟨rs, T', H', h1, h2, h3⟩ := ih _ _ _ _ _ hr
      rw [look_put, hT1] at h1
      refine ⟨⟨i, undefV, [], []⟩ :: rs, T', H', ⟨⟨rfl, hd, .inr ⟨hw, rfl⟩⟩, h1⟩, h2, ?_⟩
      simp only [List.map_cons, List.reverse_cons, List.append_assoc, List.singleton_append]
      exact h3
    split at hr
    · rename_i hg
      exact hgo T rfl (by simp [wantF, hg]) hr
    · rename_i j want hg
      split at hr
      · cases hr
      · rename_i g hgd
        have hwant : ∀ b, look T g = .c (.bool b) → wantF all (look T) o = some (b == want) := fun b hb => by simp [wantF, hg, hgd, hb]
        split at hr
        · rename_i hb
          cases want <;> simp only [cond_true, cond_false] at hr
          · exact hskip _ (look_same _ _ _ hb) (hwant _ hb) hr
          · exact hgo _ (look_same _ _ _ hb) (hwant _ hb) hr
        · rename_i hb
          cases want <;> simp only [cond_true, cond_false] at hr
          · exact hgo _ (look_same _ _ _ hb) (hwant _ hb) hr
          · exact hskip _ (look_same _ _ _ hb) (hwant _ hb) hr
        · rename_i vs hb
          exact hskip _ rfl (by simp [wantF, hg, hgd, hb]) hr
        · cases hr

end Go.Proofs.Ytlofhdoefjmabaa.Ev

/-
  The evaluator's regions whose order is drawn: any order does the same. (A text of ours; no condition.)
-/
namespace Go.Proofs.Ytlofhdoefjmabaa.Ev
set_option linter.unusedVariables false
set_option linter.unusedSimpArgs false

theorem any_beq {d : Nat} {l : List Nat} : l.any (Nat.beq d) = true ↔ d ∈ l := by
  simp only [List.any_eq_true]
  constructor
  · rintro ⟨x, hx, hb⟩; have := beq_eq hb; subst this; exact hx
  · intro h; exact ⟨d, h, by simp⟩

theorem not_any_beq {d : Nat} {l : List Nat} : (!(l.any (Nat.beq d))) = true ↔ d ∉ l := by
  rw [Bool.not_eq_true', ← Bool.not_eq_true, any_beq]

theorem not_meets {a b : List Nat} : (!meets a b) = true ↔ ∀ j ∈ a, j ∉ b := by
  unfold meets
  rw [Bool.not_eq_true', ← Bool.not_eq_true, List.any_eq_true]
  simp only [not_exists, not_and]
  constructor
  · intro h j hj hb; exact h j hj (any_beq.mpr hb)
  · intro h j hj hb; exact h j hj (any_beq.mp hb)

variable {E : Env} {all : List Oper} {len : Nat}

theorem CoreR.congr {x : Item} {T T' : Nat → V} {h h' : Nat → Blk} {r : Row} (hc : CoreR E all len x T h r) (hT : ∀ t ∈ looks all x.o, T' t = T t) (hh : ∀ id ∈ r.touch, h' id = h id) : CoreR E all len x T' h' r := by
  obtain ⟨h1, h2, h3⟩ := hc
  have hop : ∀ y ∈ x.o.op.operands, evF T' y = evF T y := by
    intro y hy
    cases y with
    | tmp t =>
      refine hT t ?_
      unfold looks tmpsOf
      exact List.mem_append_left _ (List.mem_filterMap.mpr ⟨.tmp t, by simpa using hy, rfl⟩)
    | _ => rfl
  have hw : wantF all T' x.o = wantF all T x.o := by
    unfold wantF
    cases hg : x.o.guard with
    | none => rfl
    | some gw =>
      obtain ⟨j, want⟩ := gw
      dsimp only
      cases hd : (all[j]?).bind (·.dst) with
      | none => rfl
      | some g =>
        dsimp only
        rw [hT g (by unfold looks; rw [hg]; simp only [hd]; exact List.mem_append_right _ (by simp))]
  refine ⟨h1, h2, ?_⟩
  rw [hw]
  rcases h3 with ⟨a1, out, a2, a3, a4⟩ | h3
  · exact .inl ⟨a1, out, a2.congr hop (by subst a3; exact hh), a3, a4⟩
  · exact .inr h3

structure Apart (all : List Oper) (x y : Item) (rx ry : Row) : Prop where
  a1 : ∀ d, x.o.dst = some d → d ∉ looks all y.o
  a2 : ∀ d, x.o.dst = some d → y.o.dst ≠ some d
  a3 : ∀ d, y.o.dst = some d → d ∉ looks all x.o
  b1 : (∀ j ∈ rx.touch, j ∉ ry.ups.map (·.1)) ∨ isLook x.o.op y.o.op = true
  b2 : ∀ j ∈ rx.ups.map (·.1), j ∉ ry.touch
  b3 : ∀ j ∈ rx.ups.map (·.1), j ∉ ry.ups.map (·.1)

theorem putF_look {T : Nat → V} {dst : Option Nat} {v : V} {t : Nat} (h : ∀ d, dst = some d → d ≠ t) : putF T dst v t = T t := by
  cases dst with
  | none => rfl
  | some d => simp only [putF]; rw [if_neg (fun e => h d rfl e.symm)]

theorem mpos_lt {l : List Int} : ∀ (ks : List (List Int)) (n : Nat) {j : Nat}, mpos l ks n = some j → n ≤ j ∧ j < n + ks.length
  | [], _, _, h => by simp [mpos] at h
  | k :: r, n, j, h => by
    simp only [mpos] at h
    cases hb : eqL l k <;> rw [hb] at h
    · obtain ⟨a, b⟩ := mpos_lt r (n + 1) h
      simp only [List.length_cons]
      omega
    · simp only [cond_true, Option.some.injEq] at h
      subst h
      simp only [List.length_cons]
      omega

theorem eqL_refl : ∀ (l : List Int), eqL l l = true
  | [] => rfl
  | a :: r => by simp [eqL, eqL_refl r]

theorem mpos_append {l : List Int} : ∀ (ks : List (List Int)) (n : Nat), mpos l ks n = none → mpos l (ks ++ [l]) n = some (n + ks.length)
  | [], n, _ => by simp [mpos, eqL_refl]
  | k :: r, n, h => by
    simp only [mpos] at h
    cases hb : eqL l k <;> rw [hb] at h
    · simp only [List.cons_append, mpos, hb, cond_false]
      rw [mpos_append r (n + 1) h]
      simp only [List.length_cons, Option.some.injEq]
      omega
    · cases h

theorem mget_entry {α : Type} {d : α} {l : List Int} {ks : List (List Int)} {vs : List α} :
    (match mpos l (mputK l ks) 0 with | some j => (mput l (match mpos l ks 0 with | some j => vs.getD j d | none => d) ks (vs.take ks.length)).getD j d | none => d) =
      (match mpos l ks 0 with | some j => vs.getD j d | none => d) := by
  cases hm : mpos l ks 0 with
  | none =>
    have hK : mputK l ks = ks ++ [l] := by simp [mputK, mhas, hm]
    rw [hK, mpos_append ks 0 hm]
    simp only [mput, hm]
    rw [List.getD_eq_getElem?_getD]
    by_cases hl : ks.length ≤ vs.length
    · rw [List.getElem?_append_right (by simp; omega)]
      simp [Nat.min_eq_left hl]
    · rw [List.getElem?_eq_none (by simp; omega)]
      rfl
  | some j =>
    have hj := mpos_lt ks 0 hm
    have hK : mputK l ks = ks := by simp [mputK, mhas, hm]
    rw [hK, hm]
    simp only [mput, hm]
    rw [List.getD_eq_getElem?_getD, List.getD_eq_getElem?_getD]
    by_cases hv : j < vs.length
    · rw [List.getElem?_set_self (by simp; omega)]
      rfl
    · rw [List.getElem?_eq_none (by simp; omega), List.getElem?_eq_none (by omega)]

theorem getCol_entry {l : List Int} {ks : List (List Int)} {vs c : Col} {v : V} (hv : getCol l ks vs = some v) (hc : putCol l ks (takeCol ks.length vs) v = some c) :
    getCol l (mputK l ks) c = some v ∧ ∀ te, colKind te c = colKind te vs := by
  cases vs with
  | strs _ => simp [getCol] at hv
  | ints k vs =>
    simp only [getCol, Option.some.injEq] at hv
    subst hv
    simp only [takeCol, putCol] at hc
    obtain ⟨_, h2⟩ := cond_some hc
    simp only [Option.some.injEq] at h2
    subst h2
    refine ⟨?_, fun te => rfl⟩
    simp only [getCol, Option.some.injEq]
    congr 2
    exact mget_entry
  | bools vs =>
    simp only [getCol, Option.some.injEq] at hv
    subst hv
    simp only [takeCol, putCol, Option.some.injEq] at hc
    subst hc
    refine ⟨?_, fun te => rfl⟩
    simp only [getCol, Option.some.injEq]
    congr 2
    exact mget_entry

theorem look_entry {ty : Nat → Option TI} {t : Nat} {m i : V} {h : Nat → Blk} {out outy : Out} (hx : lookupV ty t m i false h = some (true, out)) (hy : mapEntryV ty t m i h = some (true, outy)) :
    outy.new = [] ∧ lookupV ty t m i false (updW h outy.wr) = some (true, out) := by
  unfold mapEntryV at hy
  split at hy
  · rename_i kt et s0 b0 z0 id ht
    split at hy
    · rename_i k n ks vs tk te hid htk hte
      split at hy
      · rename_i l v hl hv
        split at hy
        · rename_i c hcol
          obtain ⟨hc, h2⟩ := cond_some hy
          simp only [Option.some.injEq, Prod.mk.injEq, true_and] at h2
          subst h2
          refine ⟨rfl, ?_⟩
          rw [hl] at hv
          simp only at hv
          obtain ⟨g1, g2⟩ := getCol_entry hv hcol
          unfold lookupV at hx ⊢
          simp only [ht, hid, htk, hte, hl, hv] at hx
          simp only [updW, ht, if_pos, htk, hte, hl, g1, g2]
          exact hx
        · cases hy
      · cases hy
    · cases hy
  · cases hy

theorem CoreR.look {x y : Item} {T : Nat → V} {h : Nat → Blk} {rx ry : Row} (hx : CoreR E all len x T h rx) (hy : CoreR E all len y T h ry) (hl : isLook x.o.op y.o.op = true) : CoreR E all len x T (updW h ry.ups) rx := by
  obtain ⟨h1, h2, h3⟩ := hx
  obtain ⟨_, _, hy⟩ := hy
  refine ⟨h1, h2, ?_⟩
  rcases h3 with ⟨a1, out, a2, a3, a4⟩ | h3
  · rcases hy with ⟨b1, outy, b2, b3, b4⟩ | ⟨_, b3⟩
    · refine .inl ⟨a1, out, ?_, a3, a4⟩
      unfold isLook at hl
      split at hl
      · rename_i t a b t' a' b' e1 e2
        simp only [Bool.and_eq_true] at hl
        obtain ⟨l1, l2, l3⟩ := hl
        have l1 := beq_eq l1
        have l2 := beq_eq l2
        have l3 := beq_eq l3
        subst l1
        subst l2
        subst l3
        rcases a2 with ⟨_, _, _, _, _, _, e3, _⟩ | a2
        · rw [e1] at e3; cases e3
        · rcases b2 with ⟨_, _, _, _, _, _, e3, _⟩ | b2
          · rw [e2] at e3; cases e3
          · rw [e1] at a2
            rw [e2] at b2
            refine .inr ?_
            rw [e1]
            obtain ⟨g1, g2⟩ := look_entry (ty := E.ty) a2 b2
            subst b3
            simp only [g1, newL, List.append_nil]
            exact g2
      · cases hl
    · subst b3
      exact .inl ⟨a1, out, a2, a3, a4⟩
  · exact .inr h3

theorem CoreR.swap {x y : Item} {T : Nat → V} {h : Nat → Blk} {rx ry : Row} (hx : CoreR E all len x T h rx) (hy : CoreR E all len y (putF T x.o.dst rx.v) (updW h rx.ups) ry) (ha : Apart all x y rx ry) :
    CoreR E all len y T h ry ∧ CoreR E all len x (putF T y.o.dst ry.v) (updW h ry.ups) rx ∧ putF (putF T x.o.dst rx.v) y.o.dst ry.v = putF (putF T y.o.dst ry.v) x.o.dst rx.v ∧ updW (updW h rx.ups) ry.ups = updW (updW h ry.ups) rx.ups := by
  have hy' : CoreR E all len y T h ry := hy.congr (fun t ht => (putF_look (fun d hd he => ha.a1 d hd (he ▸ ht))).symm) (fun id hid => (updW_other (fun hm => ha.b2 id hm hid)).symm)
  have hT : ∀ t ∈ looks all x.o, putF T y.o.dst ry.v t = T t := fun t ht => putF_look (fun d hd he => ha.a3 d hd (he ▸ ht))
  refine ⟨hy', ?_, putF_comm ha.a2, updW_comm ha.b3⟩
  rcases ha.b1 with hb | hl
  · exact hx.congr hT (fun id hid => updW_other (hb id hid))
  · exact (hx.look hy' hl).congr hT (fun _ _ => rfl)

def Trp (E : Env) (all : List Oper) (len : Nat) : List (Item × Row) → (Nat → V) → (Nat → Blk) → (Nat → V) → (Nat → Blk) → Prop
  | [], T, h, T', h' => T' = T ∧ h' = h
  | p :: xs, T, h, T', h' => CoreR E all len p.1 T h p.2 ∧ Trp E all len xs (putF T p.1.o.dst p.2.v) (updW h p.2.ups) T' h'

theorem Tr.pairs : ∀ {xs : List Item} {T : Nat → V} {h : Nat → Blk} {rs : List Row} {T' : Nat → V} {h' : Nat → Blk}, Tr E all len xs T h rs T' h' → ∃ L : List (Item × Row), L.map (·.1) = xs ∧ L.map (·.2) = rs ∧ Trp E all len L T h T' h'
  | [], _, _, [], _, _, ht => ⟨[], rfl, rfl, ht⟩
  | x :: xs, _, _, r :: rs, _, _, ht => by
    obtain ⟨h1, h2⟩ := ht
    obtain ⟨L, a1, a2, a3⟩ := Tr.pairs h2
    exact ⟨(x, r) :: L, by simp [a1], by simp [a2], h1, a3⟩
  | [], _, _, _ :: _, _, _, ht => ht.elim
  | _ :: _, _, _, [], _, _, ht => ht.elim

theorem Trp.front {p : Item × Row} {L2 : List (Item × Row)} {T' : Nat → V} {h' : Nat → Blk} : ∀ (L1 : List (Item × Row)) (T : Nat → V) (h : Nat → Blk), Trp E all len (L1 ++ p :: L2) T h T' h' → (∀ q ∈ L1, Apart all q.1 p.1 q.2 p.2) →
    CoreR E all len p.1 T h p.2 ∧ Trp E all len (L1 ++ L2) (putF T p.1.o.dst p.2.v) (updW h p.2.ups) T' h'
  | [], _, _, ht, _ => ht
  | q :: L1, T, h, ht, ha => by
    obtain ⟨h1, h2⟩ := ht
    obtain ⟨h3, h4⟩ := Trp.front L1 _ _ h2 (fun q hq => ha q (by simp [hq]))
    obtain ⟨s1, s2, s3, s4⟩ := h1.swap h3 (ha q (by simp))
    rw [s3, s4] at h4
    exact ⟨s1, s2, h4⟩

/- The edges -/
def deps (o : Oper) : List Nat := (o.after.toList.filter (Region.binds .any)).map (·.on)

theorem mask_spec {accf : Nat → Nat} {x : Nat} : ∀ (ds : List Nat) (m : Nat), (ds.foldl (fun m d => m ||| (1 <<< d) ||| accf d) m).testBit x = true →
    m.testBit x = true ∨ x ∈ ds ∨ ∃ d ∈ ds, (accf d).testBit x = true
  | [], m, h => Or.inl h
  | d :: ds, m, h => by
    rw [List.foldl_cons] at h
    rcases mask_spec ds _ h with h | h | ⟨e, he, h⟩
    · rw [Nat.testBit_or, Nat.testBit_or, Nat.testBit_shiftLeft] at h
      simp only [Bool.or_eq_true, Bool.and_eq_true, decide_eq_true_eq] at h
      rcases h with (h | ⟨h1, h2⟩) | h
      · exact Or.inl h
      · have hz : x - d = 0 := by
          rcases Nat.eq_zero_or_pos (x - d) with h | h
          · exact h
          · rw [Nat.testBit_lt_two_pow (Nat.one_lt_two_pow (by omega))] at h2; cases h2
        have : x = d := by omega
        exact Or.inr (Or.inl (by simp [this]))
      · exact Or.inr (Or.inr ⟨d, by simp, h⟩)
    · exact Or.inr (Or.inl (List.mem_cons_of_mem _ h))
    · exact Or.inr (Or.inr ⟨e, List.mem_cons_of_mem _ he, h⟩)

theorem befores_spec {S : Nat → Prop} (hS : ∀ j o, S j → all[j]? = some o → ∀ d ∈ deps o, S d) :
    ∀ (rest : List Oper) (acc : List Nat), all = all.take acc.length ++ rest → acc.length ≤ all.length → (∀ j o, j < acc.length → all[j]? = some o → (∀ d ∈ deps o, S d) → ∀ x, (acc.reverse.getD j 0).testBit x = true → S x) →
      ∀ j o, all[j]? = some o → (∀ d ∈ deps o, S d) → ∀ x, ((befores rest acc).getD j 0).testBit x = true → S x := by
  intro rest
  induction rest with
  | nil =>
    intro acc hall hle hinv j o hj hd x hx
    simp only [befores] at hx
    have : j < acc.length := by
      have hjl : j < all.length := (List.getElem?_eq_some_iff.mp hj).1
      have := congrArg List.length hall
      simp at this
      omega
    exact hinv j o this hj hd x hx
  | cons o rest ih =>
    intro acc hall hle hinv
    have hlen : acc.length < all.length := by
      have := congrArg List.length hall
      simp at this
      omega
    have hat : all[acc.length]? = some o := by
      have h2 : (all.take acc.length ++ o :: rest)[acc.length]? = some o := by
        rw [List.getElem?_append_right (by simp; omega)]
        simp [Nat.min_eq_left hle]
      rw [← hall] at h2; exact h2
    simp only [befores]
    refine ih _ ?_ (by simp; omega) ?_
    · simp only [List.length_cons]
      rw [List.take_add_one, hat]
      simp only [Option.toList, List.append_assoc, List.singleton_append]
      exact hall
    · intro j oj hj hoj hd x hx
      simp only [List.reverse_cons] at hx
      simp only [List.length_cons] at hj
      rcases Nat.lt_or_ge j acc.length with hlt | hge
      · refine hinv j oj hlt hoj hd x ?_
        rw [List.getD_eq_getElem?_getD, List.getElem?_append_left (by simpa using hlt)] at hx
        rw [List.getD_eq_getElem?_getD]; exact hx
      · have : j = acc.length := by omega
        subst this
        rw [hat] at hoj
        simp only [Option.some.injEq] at hoj
        subst hoj
        rw [List.getD_eq_getElem?_getD, List.getElem?_append_right (by simp)] at hx
        simp only [List.length_reverse, Nat.sub_self, List.getElem?_cons_zero, Option.getD_some] at hx
        rcases mask_spec _ _ hx with hx | hx | ⟨d, hd1, hx⟩
        · rw [Nat.zero_testBit] at hx; cases hx
        · exact hd x hx
        · have hSd := hd d hd1
          rcases Nat.lt_or_ge d acc.length with hlt | hge
          · have hdl : d < all.length := by omega
            exact hinv d _ hlt (List.getElem?_eq_getElem hdl) (fun d' hd' => hS d _ hSd (List.getElem?_eq_getElem hdl) d' hd') x hx
          · rw [List.getD_eq_getElem?_getD, List.getElem?_eq_none (by simpa using hge)] at hx
            rw [Option.getD_none, Nat.zero_testBit] at hx; cases hx

theorem backward_spec : ∀ (rest : List Oper) (k : Nat), backward k rest = true → ∀ j o, rest[j]? = some o → ∀ d ∈ deps o, d < k + j
  | [], _, _, j, o, hj => by simp at hj
  | x :: r, k, hb, 0, o, hj => by
    simp at hj
    subst hj
    simp only [backward, Bool.and_eq_true, List.all_eq_true] at hb
    intro d hd
    simp only [deps, List.mem_map, List.mem_filter] at hd
    obtain ⟨e, ⟨h1, h2⟩, rfl⟩ := hd
    have := hb.1 e h1
    rw [h2] at this
    simp at this
    omega
  | x :: r, k, hb, j + 1, o, hj => by
    simp only [backward, Bool.and_eq_true] at hb
    intro d hd
    have := backward_spec r (k + 1) hb.2 j o (by simpa using hj) d hd
    omega

theorem okDraw_pairwise {bef : List Nat} : ∀ (l : List Fp), okDraw all bef l = true → l.Pairwise (fun y x => indep all bef x y = true)
  | [], _ => .nil
  | y :: r, h => by
    simp only [okDraw, Bool.and_eq_true, List.all_eq_true] at h
    exact .cons h.1 (okDraw_pairwise r h.2)

section
variable {P : Program} {ops : Array Oper} {Q : Exit → Act → World → Prop}

theorem mem_deps {o : Oper} {d : Nat} : d ∈ deps o ↔ ∃ e ∈ o.after, Region.binds .any e = true ∧ e.on = d := by
  simp only [deps, List.mem_map, List.mem_filter, Array.mem_toList_iff]
  constructor
  · rintro ⟨e, ⟨h1, h2⟩, h3⟩; exact ⟨e, h1, h2, h3⟩
  · rintro ⟨e, h1, h2, h3⟩; exact ⟨e, ⟨h1, h2⟩, h3⟩

theorem getD_false_true {l : Array Bool} {i : Nat} (h : l.getD i false = true) : l.getD i true = true := by
  rw [Array.getD_eq_getD_getElem?] at h ⊢
  cases hc : l[i]? <;> rw [hc] at h <;> simp_all

theorem getD_true_false {l : Array Bool} {i : Nat} (hi : i < l.size) (h : l.getD i true = true) : l.getD i false = true := by
  rw [Array.getD_eq_getD_getElem?, Array.getElem?_eq_getElem hi] at h ⊢
  exact h

/-- Any order: what a chain of steps does in the text's order. -/
theorem wpAny_of (I : (Nat → V) → (Nat → Blk) → List Item → Act → World → Prop) {T' : Nat → V} {h' : Nat → Blk}
    (hstep : ∀ T h pre x post r a w K, CoreR E ops.toList len x T h r → I T h (pre ++ x :: post) a w → ops[x.i]? = some x.o → (∀ a' w', I (putF T x.o.dst r.v) (updW h r.ups) (pre ++ post) a' w' → K a' w') → wpOp P ops Q x.i K a w)
    (hb : backward 0 ops.toList = true) (hQ : ∀ a w, I T' h' [] a w → Q .normal a w) :
    ∀ (fuel : Nat) (listed : Array Bool) (L : List (Item × Row)) (T : Nat → V) (h : Nat → Blk) (a : Act) (w : World), Trp E ops.toList len L T h T' h' → I T h (L.map (·.1)) a w → L.length ≤ fuel →
      listed.size = ops.size → L.map (·.1.i) = (List.range ops.size).filter (fun i => !listed.getD i true) → (∀ p ∈ L, ops[p.1.i]? = some p.1.o) → (∀ p ∈ L, p.2.i = p.1.i) →
      L.Pairwise (fun p q => indep ops.toList (befores ops.toList []) p.2.fp q.2.fp = true) →
      (∀ j o, listed.getD j false = true → ops[j]? = some o → ∀ d ∈ deps o, listed.getD d false = true) →
      wpAny P .any ops Q fuel listed a w := by
  intro fuel
  induction fuel with
  | zero =>
    intro listed L T h a w ht hI hlen hsz hL ho hri hpw hcl
    have : L = [] := List.length_eq_zero_iff.mp (by omega)
    subst this
    obtain ⟨rfl, rfl⟩ := ht
    refine ⟨?_, hQ a w hI⟩
    rw [List.eq_nil_iff_forall_not_mem]
    intro j hj
    rw [mem_ready] at hj
    obtain ⟨h0, o, hjo, _⟩ := hj
    have hjl : j < ops.size := (Array.getElem?_eq_some_iff.mp hjo).1
    have : j ∈ (List.range ops.size).filter (fun i => !listed.getD i true) := by simp only [List.mem_filter, List.mem_range]; exact ⟨hjl, by rw [h0]; rfl⟩
    rw [← hL] at this
    simp at this
  | succ fuel ih =>
    intro listed L T h a w ht hI hlen hsz hL ho hri hpw hcl
    refine ⟨fun hr => ?_, fun i hi => ?_⟩
    · cases L with
      | nil => obtain ⟨rfl, rfl⟩ := ht; exact hQ a w hI
      | cons p L =>
        exfalso
        have hpo := ho p (by simp)
        have hpl : p.1.i < ops.size := (Array.getElem?_eq_some_iff.mp hpo).1
        have hin : p.1.i ∈ (List.range ops.size).filter (fun i => !listed.getD i true) := by rw [← hL]; simp
        simp only [List.mem_filter, List.mem_range, Bool.not_eq_true'] at hin
        have hfirst : ∀ j, j < p.1.i → listed.getD j true = true := by
          intro j hj
          cases hc : listed.getD j true with
          | true => rfl
          | false =>
            exfalso
            have hm : j ∈ (p :: L).map (·.1.i) := by rw [hL]; simp only [List.mem_filter, List.mem_range]; exact ⟨by omega, by rw [hc]; rfl⟩
            have hsorted : ((p :: L).map (·.1.i)).Pairwise (· < ·) := by rw [hL]; exact List.Pairwise.filter _ List.pairwise_lt_range
            simp only [List.map_cons, List.pairwise_cons, List.mem_cons] at hsorted hm
            rcases hm with rfl | hm
            · omega
            · have := hsorted.1 j hm; omega
        have hrd : p.1.i ∈ Region.ready .any ops listed := by
          rw [mem_ready]
          refine ⟨hin.2, p.1.o, hpo, fun e he hbe => ?_⟩
          have hlt : e.on < 0 + p.1.i := backward_spec _ _ hb p.1.i p.1.o (by simpa using hpo) e.on (mem_deps.mpr ⟨e, he, hbe, rfl⟩)
          exact getD_true_false (by omega) (hfirst e.on (by omega))
        rw [hr] at hrd
        cases hrd
    · have hi' := hi
      rw [mem_ready] at hi
      obtain ⟨h0, o, hio, hdeps⟩ := hi
      have hil : i < ops.size := (Array.getElem?_eq_some_iff.mp hio).1
      have hm : i ∈ L.map (·.1.i) := by rw [hL]; simp only [List.mem_filter, List.mem_range]; exact ⟨hil, by rw [h0]; rfl⟩
      obtain ⟨p, hpL, hpi⟩ := List.mem_map.mp hm
      obtain ⟨L1, L2, rfl⟩ := List.append_of_mem hpL
      have hpo := ho p hpL
      have hd' : ∀ d ∈ deps o, listed.getD d false = true := fun d hd => by
        obtain ⟨e, he, hbe, rfl⟩ := mem_deps.mp hd
        exact hdeps e he hbe
      have hbef : ∀ x, ((befores ops.toList []).getD i 0).testBit x = true → listed.getD x false = true :=
        befores_spec (all := ops.toList) (S := fun j => listed.getD j false = true) (fun j o hj hjo => hcl j o hj (by simpa using hjo)) ops.toList [] (by simp) (by simp) (fun j o hj => by simp at hj) i o (by simpa using hio) hd'
      have hap : ∀ q ∈ L1, Apart ops.toList q.1 p.1 q.2 p.2 := by
        intro q hq
        have hind : indep ops.toList (befores ops.toList []) q.2.fp p.2.fp = true := by
          rw [List.pairwise_append] at hpw
          exact hpw.2.2 q hq p (by simp)
        have hqL : q ∈ L1 ++ p :: L2 := by simp [hq]
        have hqu : listed.getD q.1.i true = false := by
          have : q.1.i ∈ (L1 ++ p :: L2).map (·.1.i) := List.mem_map_of_mem hqL
          rw [hL] at this
          simp only [List.mem_filter, Bool.not_eq_true'] at this
          exact this.2
        simp only [indep, Row.fp] at hind
        rw [hri q hqL, hri p hpL, hpi, Bool.or_eq_true, Bool.and_eq_true, Bool.and_eq_true, Bool.and_eq_true] at hind
        rcases hind with hind | ⟨⟨⟨h1, h2⟩, h3⟩, h4⟩
        · have := getD_false_true (hbef _ hind)
          rw [hqu] at this; cases this
        · have e1 : ops.toList.getD q.1.i default = q.1.o := by rw [List.getD_eq_getElem?_getD]; have := ho q hqL; simp [this]
          have e2 : ops.toList.getD i default = p.1.o := by rw [← hpi, List.getD_eq_getElem?_getD]; simp [hpo]
          rw [e1, e2] at h1 h2
          simp only [apartT, Bool.and_eq_true] at h1
          refine ⟨fun d hd => ?_, fun d hd he => ?_, fun d hd => ?_, ((Bool.or_eq_true _ _).mp h2).imp not_meets.mp id, not_meets.mp h3, not_meets.mp h4⟩
          · have := h1.1; rw [hd] at this; simp only [Bool.and_eq_true] at this; exact not_any_beq.mp this.1
          · have := h1.1; rw [hd] at this; simp only [Bool.and_eq_true] at this; exact not_any_beq.mp this.2 (by simp [he])
          · have := h1.2; rw [hd] at this; exact not_any_beq.mp this
      obtain ⟨hc, ht'⟩ := Trp.front L1 T h ht hap
      rw [← hpi]
      refine hstep T h (L1.map (·.1)) p.1 (L2.map (·.1)) p.2 a w _ hc (by simpa using hI) hpo (fun a' w' hI' => ?_)
      refine ih _ (L1 ++ L2) _ _ a' w' ht' (by simpa using hI') (by simp at hlen ⊢; omega) (by simpa using hsz) ?_ ?_ ?_ ?_ ?_
      · have hnd : ((L1 ++ p :: L2).map (·.1.i)).Nodup := by rw [hL]; exact (List.nodup_range).filter _
        have hf : ((List.range ops.size).filter fun j => !(listed.setIfInBounds p.1.i true).getD j true) = (((List.range ops.size).filter fun j => !listed.getD j true).filter fun j => j != p.1.i) := by
          rw [List.filter_filter]
          refine List.filter_congr (fun j hj => ?_)
          by_cases hji : j = p.1.i
          · subst hji
            have : (listed.setIfInBounds p.1.i true).getD p.1.i true = true := by
              rw [Array.getD_eq_getD_getElem?, Array.getElem?_setIfInBounds_self]; split <;> rfl
            rw [this]; simp
          · rw [getD_set_ne true (Ne.symm hji)]
            simp [hji]
        rw [hf, ← hL]
        simp only [List.map_append, List.map_cons, List.filter_append, List.filter_cons, bne_self_eq_false, Bool.false_eq_true, if_false]
        simp only [List.map_append, List.map_cons, List.nodup_append, List.nodup_cons, List.mem_cons] at hnd
        obtain ⟨_, ⟨hn1, _⟩, hn2⟩ := hnd
        rw [List.filter_eq_self.mpr, List.filter_eq_self.mpr]
        · intro x hx; simp only [bne_iff_ne, ne_eq]; rintro rfl; exact hn1 hx
        · intro x hx; simp only [bne_iff_ne, ne_eq]; rintro rfl; exact hn2 _ hx _ (.inl rfl) rfl
      · intro q hq; refine ho q ?_; simp only [List.mem_append, List.mem_cons] at hq ⊢; rcases hq with h | h <;> simp [h]
      · intro q hq; refine hri q ?_; simp only [List.mem_append, List.mem_cons] at hq ⊢; rcases hq with h | h <;> simp [h]
      · exact hpw.sublist (List.Sublist.append_left (List.sublist_cons_self _ _) _)
      · intro j oj hj hoj d hd
        by_cases hji : j = p.1.i
        · subst hji
          rw [hpi, hio] at hoj
          simp only [Option.some.injEq] at hoj
          subst hoj
          exact getD_set_true (hd' d hd)
        · rw [getD_set_ne false (Ne.symm hji)] at hj
          exact getD_set_true (hcl j oj hj hoj d hd)

/-- The text's own order. -/
theorem wpOps_of (I : (Nat → V) → (Nat → Blk) → List Item → Act → World → Prop) {T' : Nat → V} {h' : Nat → Blk}
    (hstep : ∀ T h pre x post r a w K, CoreR E ops.toList len x T h r → I T h (pre ++ x :: post) a w → ops[x.i]? = some x.o → (∀ a' w', I (putF T x.o.dst r.v) (updW h r.ups) (pre ++ post) a' w' → K a' w') → wpOp P ops Q x.i K a w)
    (hQ : ∀ a w, I T' h' [] a w → Q .normal a w) :
    ∀ (L : List (Item × Row)) (T : Nat → V) (h : Nat → Blk) (a : Act) (w : World), Trp E ops.toList len L T h T' h' → I T h (L.map (·.1)) a w → (∀ p ∈ L, ops[p.1.i]? = some p.1.o) → wpOps P ops Q (L.map (·.1.i)) a w := by
  intro L
  induction L with
  | nil => intro T h a w ht hI ho; obtain ⟨rfl, rfl⟩ := ht; exact hQ a w hI
  | cons p L ih =>
    intro T h a w ht hI ho
    simp only [List.map_cons]
    rw [wpOps_cons]
    exact hstep T h [] p.1 (L.map (·.1)) p.2 a w _ ht.1 (by simpa using hI) (ho p (by simp)) (fun a' w' hI' => ih _ _ a' w' ht.2 (by simpa using hI') (fun q hq => ho q (by simp [hq])))

end
end Go.Proofs.Ytlofhdoefjmabaa.Ev

/-
  What a function does, said with the evaluator's values; names changed. (A text of ours; no condition.)
-/
namespace Go.Proofs.Ytlofhdoefjmabaa.Ev
set_option linter.unusedVariables false
set_option linter.unusedSimpArgs false

mutual
theorem Rel.avoid {ρ : Rho} {M M' : Nat → Prop} {w : World} (hM : ∀ b, M' b → M b) : ∀ (x : V) (v : Value), Rel ρ M w x v → Rel ρ M' w x v
  | .c _, _, h => by simpa only [Rel] using h
  | .poison, _, _ => by simp only [Rel]
  | .ptr _ _ _, _, h => by simpa only [Rel] using h
  | .sw _ _, _, h => by simpa only [Rel] using h
  | .sl _ _ _ _, _, h => by simpa only [Rel] using h
  | .mref _, _, h => by simpa only [Rel] using h
  | .il _ _ _, _, h => by
    simp only [Rel] at h ⊢
    obtain ⟨h0, h1, h2 | ⟨b, o, cap, h2, h3, h4, h5, h6⟩⟩ := h
    · exact ⟨h0, h1, .inl h2⟩
    · exact ⟨h0, h1, .inr ⟨b, o, cap, h2, h3, h4, fun hm => h5 (hM b hm), h6⟩⟩
  | .iv _ _, _, h => by
    simp only [Rel] at h ⊢
    obtain ⟨h0, h2 | ⟨b, o, cap, h2, h3, h4, h5, h7⟩⟩ := h
    · exact ⟨h0, .inl h2⟩
    · exact ⟨h0, .inr ⟨b, o, cap, h2, h3, h4, fun hm => h5 (hM b hm), h7⟩⟩
  | .ilp _ _ _ _, _, h => by
    simp only [Rel] at h ⊢
    obtain ⟨b, o, h2, h3, h4, h5, h6⟩ := h
    exact ⟨b, o, h2, h3, h4, fun hm => h5 (hM b hm), h6⟩
  | .ivp _ _ _ _, _, h => by
    simp only [Rel] at h ⊢
    obtain ⟨b, o, h2, h3, h4, h5, h7⟩ := h
    exact ⟨b, o, h2, h3, h4, fun hm => h5 (hM b hm), h7⟩
  | .agg cs, _, h => by
    simp only [Rel] at h ⊢
    obtain ⟨vs, h1, h2⟩ := h
    exact ⟨vs, h1, RelL.avoid hM cs _ h2⟩
  | .tup cs, _, h => by
    simp only [Rel] at h ⊢
    obtain ⟨vs, h1, h2⟩ := h
    exact ⟨vs, h1, RelL.avoid hM cs _ h2⟩
  | .fn _ a c, _, h => by
    simp only [Rel] at h ⊢
    obtain ⟨va, vc, h1, h2, h3⟩ := h
    exact ⟨va, vc, h1, RelL.avoid hM a _ h2, RelL.avoid hM c _ h3⟩
theorem RelL.avoid {ρ : Rho} {M M' : Nat → Prop} {w : World} (hM : ∀ b, M' b → M b) : ∀ (x : List V) (v : List Value), RelL ρ M w x v → RelL ρ M' w x v
  | [], [], _ => by simp only [RelL]
  | x :: xs, v :: vs, h => by
    simp only [RelL] at h ⊢
    exact ⟨Rel.avoid hM x v h.1, RelL.avoid hM xs vs h.2⟩
  | [], _ :: _, h => by simp only [RelL] at h
  | _ :: _, [], h => by simp only [RelL] at h
end

mutual
theorem Rel.ren {ρ ρ' : Rho} {M M' : Nat → Prop} {w : World} {m : Nat → Option Nat} (hm : ∀ i j p, m i = some j → ρ i = some p → ρ' j = some p) : ∀ (x : V) (v : Value), ((∀ b, M' b → M b) ∨ noImm x = true) → Rel ρ M w x v → Rel ρ' M' w (ren m x) v
  | .c _, _, _, h => by simpa only [Rel, Ev.ren] using h
  | .poison, _, _, _ => by simp only [Rel, Ev.ren]
  | .ptr id _ _, _, _, h => by
    simp only [Ev.ren]
    cases hid : m id with
    | none => simp only [Rel]
    | some j =>
      simp only [Rel] at h ⊢
      obtain ⟨b, n, C, h1, h2, h3⟩ := h
      exact ⟨b, n, C, hm _ _ _ hid h1, h2, h3⟩
  | .sw id _, _, _, h => by
    simp only [Ev.ren]
    cases hid : m id with
    | none => simp only [Rel]
    | some j =>
      simp only [Rel] at h ⊢
      obtain ⟨h0, ⟨b, n, C, cap, h1, h2⟩ | ⟨h1, h2⟩⟩ := h
      · exact ⟨h0, .inl ⟨b, n, C, cap, hm _ _ _ hid h1, h2⟩⟩
      · exact ⟨h0, .inr ⟨hm _ _ _ hid h1, h2⟩⟩
  | .sl id _ _ _, _, _, h => by
    simp only [Ev.ren]
    cases hid : m id with
    | none => simp only [Rel]
    | some j =>
      simp only [Rel] at h ⊢
      obtain ⟨h0, ⟨b, n, C, cap, h1, h2⟩ | ⟨h1, h2⟩⟩ := h
      · exact ⟨h0, .inl ⟨b, n, C, cap, hm _ _ _ hid h1, h2⟩⟩
      · exact ⟨h0, .inr ⟨h1, h2⟩⟩
  | .mref id, _, _, h => by
    simp only [Ev.ren]
    cases hid : m id with
    | none => simp only [Rel]
    | some j =>
      simp only [Rel] at h ⊢
      obtain ⟨b, h1, h2⟩ := h
      exact ⟨b, hm _ _ _ hid h1, h2⟩
  | .il k s l, v, hM, h => by
    simp only [Ev.ren]
    rcases hM with hM | hM
    · have := Rel.avoid hM _ _ h
      simpa only [Rel] using this
    · simp [noImm] at hM
  | .iv s l, v, hM, h => by
    simp only [Ev.ren]
    rcases hM with hM | hM
    · have := Rel.avoid hM _ _ h
      simpa only [Rel] using this
    · simp [noImm] at hM
  | .ilp k l off ext, v, hM, h => by
    simp only [Ev.ren]
    rcases hM with hM | hM
    · have := Rel.avoid hM _ _ h
      simpa only [Rel] using this
    · simp [noImm] at hM
  | .ivp l i off ext, v, hM, h => by
    simp only [Ev.ren]
    rcases hM with hM | hM
    · have := Rel.avoid hM _ _ h
      simpa only [Rel] using this
    · simp [noImm] at hM
  | .agg cs, _, hM, h => by
    simp only [Rel, Ev.ren] at h ⊢
    obtain ⟨vs, h1, h2⟩ := h
    exact ⟨vs, h1, RelL.ren hm cs _ (by simpa only [noImm] using hM) h2⟩
  | .tup cs, _, hM, h => by
    simp only [Rel, Ev.ren] at h ⊢
    obtain ⟨vs, h1, h2⟩ := h
    exact ⟨vs, h1, RelL.ren hm cs _ (by simpa only [noImm] using hM) h2⟩
  | .fn _ a c, _, hM, h => by
    simp only [Rel, Ev.ren] at h ⊢
    obtain ⟨va, vc, h1, h2, h3⟩ := h
    exact ⟨va, vc, h1, RelL.ren hm a _ (hM.imp id (fun h => by simp only [noImm, Bool.and_eq_true] at h; exact h.1)) h2, RelL.ren hm c _ (hM.imp id (fun h => by simp only [noImm, Bool.and_eq_true] at h; exact h.2)) h3⟩
theorem RelL.ren {ρ ρ' : Rho} {M M' : Nat → Prop} {w : World} {m : Nat → Option Nat} (hm : ∀ i j p, m i = some j → ρ i = some p → ρ' j = some p) : ∀ (x : List V) (v : List Value), ((∀ b, M' b → M b) ∨ noImmL x = true) → RelL ρ M w x v → RelL ρ' M' w (renL m x) v
  | [], [], _, _ => by simp only [RelL, renL]
  | x :: xs, v :: vs, hM, h => by
    simp only [RelL, renL] at h ⊢
    exact ⟨Rel.ren hm x v (hM.imp id (fun h => by simp only [noImmL, Bool.and_eq_true] at h; exact h.1)) h.1, RelL.ren hm xs vs (hM.imp id (fun h => by simp only [noImmL, Bool.and_eq_true] at h; exact h.2)) h.2⟩
  | [], _ :: _, _, h => by simp only [RelL] at h
  | _ :: _, [], _, h => by simp only [RelL] at h
end

theorem renL_length (m : Nat → Option Nat) : ∀ l : List V, (renL m l).length = l.length
  | [] => rfl
  | _ :: r => by simp [renL, renL_length m r]

theorem renL_il (m : Nat → Option Nat) (k : IntKind) (s : Nat) : ∀ rows : List (List Int), renL m (rows.map (.il k s)) = rows.map (.il k s)
  | [] => rfl
  | _ :: r => by simp only [List.map_cons, renL, Ev.ren, renL_il m k s r]
theorem BlkRel.ren {ρ ρ' : Rho} {M M' : Nat → Prop} {w : World} {m : Nat → Option Nat} (hm : ∀ i j p, m i = some j → ρ i = some p → ρ' j = some p) {p : Pl} {x : Blk} (hM : (∀ b, M' b → M b) ∨ noImmB x = true) (h : BlkRel ρ M w p x) : BlkRel ρ' M' w p (renB m x) := by
  cases x with
  | dead => trivial
  | ints k l => exact h
  | mp k n ks vs => exact h
  | it mid cnt rem cur =>
    obtain ⟨h1, h2, b, mb, seen, h4, h5, h6, h7⟩ := h
    refine ⟨h1, h2, b, mb, seen, h4, h5, fun i hi => ?_, h7⟩
    cases mid with
    | none => cases hi
    | some j => exact hm j i _ hi (h6 j rfl)
  | vals cs =>
    obtain ⟨h1, ⟨h2, h3, h4⟩ | ⟨b, c, h2, h3, h4, h5⟩⟩ := h
    · subst h3; exact ⟨h1, .inl ⟨h2, rfl, h4⟩⟩
    · exact ⟨by rw [renL_length]; exact h1, .inr ⟨b, c, h2, h3, h4, RelL.ren hm _ _ (by simpa only [noImmB] using hM) h5⟩⟩
  | nl k s rows =>
    obtain ⟨h1, ⟨h2, h3, h4⟩ | ⟨b, c, h2, h3, h4, h5⟩⟩ := h
    · subst h3; exact ⟨h1, .inl ⟨h2, rfl, h4⟩⟩
    · have := RelL.ren hm _ _ (hM.imp id (fun h => by simp [noImmB] at h)) h5
      rw [renL_il] at this
      exact ⟨h1, .inr ⟨b, c, h2, h3, h4, this⟩⟩

theorem renB_live {m : Nat → Option Nat} {x : Blk} : (renB m x).live ↔ x.live := by cases x <;> simp [renB, Blk.live]

/-- What a function does: arguments and blocks in, value and blocks out; the world's other cells stand as before. -/
def FnPost (F : Nat → Prop) (ρ : Rho) (bs : List Blk) (w : World) (v : V) (bs' : List Blk) (v' : Value) (w' : World) : Prop :=
  ∃ ρ', (∀ id, id < bs.length → ρ' id = ρ id) ∧ (∀ id, bs'.length ≤ id → ρ' id = none) ∧ HeapRel F ρ' (blkAt bs') w' ∧ Rel ρ' (av F (liveM ρ' (blkAt bs'))) w' v v' ∧ Ext (liveM ρ (blkAt bs)) w (liveM ρ' (blkAt bs')) w'

def Callable (P : Program) (f : Nat) : Prop := ∃ fn, P.funcs[f]? = some fn ∧ fn.body.isNone = false ∧ (fn.name == "runtime.NumGoroutine") = false

structure FnSpec (P : Program) (f : Nat) (args : List V) (bs : List Blk) (v : V) (bs' : List Blk) : Prop where
  callable : Callable P f
  calls : ∀ F ρ w args', HeapRel F ρ (blkAt bs) w → (∀ id, bs.length ≤ id → ρ id = none) → RelL ρ (av F (liveM ρ (blkAt bs))) w args args' →
    Calls P f args'.toArray w fun e w' => ∃ v', e = .returned v' ∧ FnPost F ρ bs w v bs' v' w'

def TabOK (P : Program) (tab : Nat → Option Entry) : Prop := ∀ f e, tab f = some e → ∀ args bs a enc, e.dec args bs = some (some a, enc) → FnSpec P f args bs (enc a).pick.1 (enc a).pick.2

/- Lists of blocks -/
theorem blkAt_getD : ∀ (bs : List Blk) (j : Nat), blkAt bs j = bs.getD j .dead
  | [], _ => by simp [blkAt]
  | _ :: _, 0 => by simp [blkAt]
  | b :: r, j + 1 => by simp [blkAt, blkAt_getD r j]

theorem dropB_eq : ∀ (bs : List Blk) (n : Nat), dropB bs n = bs.drop n
  | _, 0 => by simp [dropB]
  | [], _ + 1 => by simp [dropB]
  | _ :: r, n + 1 => by simp [dropB, dropB_eq r n]

theorem blkAt_map {m : Nat → Option Nat} (bs : List Blk) (j : Nat) : blkAt (bs.map (renB m)) j = renB m (blkAt bs j) := by
  rw [blkAt_getD, blkAt_getD]
  simp only [List.getD_eq_getElem?_getD, List.getElem?_map]
  cases bs[j]? <;> rfl

theorem updW_newL {h : Nat → Blk} {nid : Nat} {bs : List Blk} {id : Nat} (h1 : nid ≤ id) (h2 : id < nid + bs.length) : updW h (newL nid bs) id = blkAt bs (id - nid) := by
  induction bs generalizing h nid with
  | nil => simp at h2; omega
  | cons b r ih =>
    simp only [newL, updW]
    by_cases he : id = nid
    · subst he
      rw [updW_other (fun hm => by rw [newL_fst] at hm; simp at hm; omega), if_pos rfl]
      simp [blkAt]
    · rw [ih (by omega) (by simp at h2; omega)]
      have : id - nid = (id - (nid + 1)) + 1 := by omega
      rw [this]; rfl

theorem newL_not {nid : Nat} {bs : List Blk} {id : Nat} (h : ¬ (nid ≤ id ∧ id < nid + bs.length)) : id ∉ (newL nid bs).map (·.1) := by
  rw [newL_fst]; simp; intro x hx; omega

theorem zipW_fst : ∀ (σ : List Nat) (bs : List Blk) (i : Nat), i ∈ (zipW σ bs).map (·.1) → i ∈ σ
  | [], _, i, h => by simp [zipW] at h
  | _ :: _, [], i, h => by simp [zipW] at h
  | j :: r, b :: s, i, h => by
    simp only [zipW, List.map_cons, List.mem_cons] at h ⊢
    exact h.imp id (zipW_fst r s i)

theorem nodup_spec : ∀ (σ : List Nat), nodup σ = true → σ.Nodup
  | [], _ => List.nodup_nil
  | i :: r, h => by
    simp only [nodup, Bool.and_eq_true] at h
    exact List.nodup_cons.mpr ⟨not_any_beq.mp h.1, nodup_spec r h.2⟩

theorem updW_zipW : ∀ (σ : List Nat) (bs : List Blk) (h : Nat → Blk) (j i : Nat), σ.Nodup → σ.length ≤ bs.length → σ[j]? = some i → updW h (zipW σ bs) i = blkAt bs j
  | [], _, _, _, _, _, _, hi => by simp at hi
  | x :: r, [], _, _, _, _, hl, _ => by simp at hl
  | x :: r, b :: s, h, 0, i, hn, hl, hi => by
    simp at hi; subst hi
    simp only [zipW, updW]
    rw [updW_other (fun hm => (List.nodup_cons.mp hn).1 (zipW_fst _ _ _ hm)), if_pos rfl]
    rfl
  | x :: r, b :: s, h, j + 1, i, hn, hl, hi => by
    simp only [zipW, updW]
    rw [updW_zipW r s _ j i (List.nodup_cons.mp hn).2 (by simpa using hl) (by simpa using hi)]
    rfl

theorem updW_dead : ∀ (τ : List Nat) (h : Nat → Blk) (i : Nat), i ∈ τ → updW h (τ.map fun i => (i, Blk.dead)) i = .dead
  | x :: r, h, i, hi => by
    simp only [List.map_cons, updW]
    by_cases hr : i ∈ r
    · exact updW_dead r _ i hr
    · rw [updW_other (by simpa [Function.comp_def] using hr)]
      rcases List.mem_cons.mp hi with rfl | hi
      · rw [if_pos rfl]
      · exact absurd hi hr

theorem place_spec : ∀ (σ : List Nat) (i n j : Nat), place i σ n = some j → n ≤ j ∧ σ[j - n]? = some i
  | [], i, n, j, h => by simp [place] at h
  | x :: r, i, n, j, h => by
    simp only [place] at h
    cases hb : Nat.beq x i <;> rw [hb] at h <;> simp only [cond_true, cond_false] at h
    · obtain ⟨h1, h2⟩ := place_spec r i (n + 1) j h
      refine ⟨by omega, ?_⟩
      have : j - n = (j - (n + 1)) + 1 := by omega
      rw [this]; simpa using h2
    · simp only [Option.some.injEq] at h
      subst h
      have := beq_eq hb
      subst this
      simp

theorem outName_lt {σ : List Nat} {nid j i : Nat} (h : σ[j]? = some i) : outName σ nid j = some i := by unfold outName; rw [h]
theorem outName_ge {σ : List Nat} {nid j : Nat} (h : σ.length ≤ j) : outName σ nid j = some (nid + (j - σ.length)) := by unfold outName; rw [List.getElem?_eq_none h]

section
variable {P : Program} {F : Nat → Prop} {ρ : Rho} {h : Nat → Blk} {w : World} {nid : Nat}

mutual
/-- An argument that is only read, handed on as what it holds. -/
theorem immV_ok (hh : HeapRel F ρ h w) {Ml : Nat → Prop} (hM : ∀ b, Ml b → av F (liveM ρ h) b) : ∀ (v : V) (u : Value), (∀ id ∈ (immV h v).2, ∀ b n C, ρ id = some ⟨some b, n, C⟩ → (h id).live → ¬ Ml b) → Rel ρ (av F (liveM ρ h)) w v u → Rel ρ Ml w (immV h v).1 u
  | .sw id s, u, hτ, hr => by
    unfold immV at hτ ⊢
    split at hτ
    · rename_i k l hid
      have hl : (h id).live := by rw [hid]; trivial
      obtain ⟨h0, ⟨b, n, C, cap, c, h1, h2, h3, h4, h5, ho, hsz, hold⟩ | ⟨h1, h2, hk⟩⟩ := sw_cells hh hr hl (by rw [hid]; trivial)
      · rw [hid] at hold
        obtain ⟨e1, e2, e3⟩ := hold
        simp only [Rel]
        refine ⟨h0, by rw [e1]; exact h2, .inr ⟨b, 0, cap, by rw [e1]; exact h5, by rw [e1]; exact h3, ho.lt, hτ id (by simp) b n C h1 hl, fun j hj => ?_⟩⟩
        rw [Nat.zero_add, ho.cell]
        exact e3 j hj
      · rw [hid] at hk
        rcases hk with ⟨k2, hk⟩ | hk | ⟨_, _, hk⟩ <;> cases hk
        simp only [Rel]
        exact ⟨h0, by simp, .inl ⟨trivial, none, h2⟩⟩
    · exact Rel.avoid hM _ _ hr
  | .sl id s off len, u, hτ, hr => by
    unfold immV at hτ ⊢
    split at hτ
    · rename_i k l hid
      have hl : (h id).live := by rw [hid]; trivial
      simp only [Rel] at hr ⊢
      obtain ⟨h0, ⟨b, n, C, cap, h1, h2, h3, h4, h5⟩ | ⟨h1, a, h2⟩⟩ := hr
      · obtain ⟨c, ho, hsz, hold⟩ := hh.own hl (by rw [hid]; trivial) h1
        rw [hid] at hold
        obtain ⟨e1, e2, e3⟩ := hold
        have hlen : ((l.drop off).take (mulw s len)).length = len * s := by rw [mulw_eq]; simp; omega
        rw [hlen]
        refine ⟨h0, Nat.mul_mod_left _ _, .inr ⟨b, off, cap, by rw [Nat.mul_div_cancel _ h0]; exact h5, by rw [Nat.mul_div_cancel _ h0]; exact h3, ho.lt, hτ id (by simp) b n C h1 hl, fun j hj => ?_⟩⟩
        rw [ho.cell, e3 _ (by omega)]
        congr 2
        simp only [List.getD_eq_getElem?_getD]
        rw [List.getElem?_take_of_lt (by rw [mulw_eq]; omega), List.getElem?_drop]
      · subst h1
        have : (l.drop off).take (mulw s 0) = [] := by rw [mulw_eq]; simp
        rw [this]
        exact ⟨h0, by simp, .inl ⟨rfl, a, h2⟩⟩
    · exact Rel.avoid hM _ _ hr
  | .agg cs, u, hτ, hr => by
    unfold immV at hτ ⊢
    simp only [Rel] at hr ⊢
    obtain ⟨vs, h1, h2⟩ := hr
    exact ⟨vs, h1, immL_ok hh hM cs _ hτ h2⟩
  | .c _, u, _, hr => by simp only [immV]; exact Rel.avoid hM _ _ hr
  | .poison, u, _, hr => by simp only [immV]; exact Rel.avoid hM _ _ hr
  | .ptr _ _ _, u, _, hr => by simp only [immV]; exact Rel.avoid hM _ _ hr
  | .mref _, u, _, hr => by simp only [immV]; exact Rel.avoid hM _ _ hr
  | .il _ _ _, u, _, hr => by simp only [immV]; exact Rel.avoid hM _ _ hr
  | .iv _ _, u, _, hr => by simp only [immV]; exact Rel.avoid hM _ _ hr
  | .ilp _ _ _ _, u, _, hr => by simp only [immV]; exact Rel.avoid hM _ _ hr
  | .ivp _ _ _ _, u, _, hr => by simp only [immV]; exact Rel.avoid hM _ _ hr
  | .tup _, u, _, hr => by simp only [immV]; exact Rel.avoid hM _ _ hr
  | .fn _ _ _, u, _, hr => by simp only [immV]; exact Rel.avoid hM _ _ hr
theorem immL_ok (hh : HeapRel F ρ h w) {Ml : Nat → Prop} (hM : ∀ b, Ml b → av F (liveM ρ h) b) : ∀ (xs : List V) (us : List Value), (∀ id ∈ (immL h xs).2, ∀ b n C, ρ id = some ⟨some b, n, C⟩ → (h id).live → ¬ Ml b) → RelL ρ (av F (liveM ρ h)) w xs us → RelL ρ Ml w (immL h xs).1 us
  | [], [], _, _ => by simp only [immL, RelL]
  | x :: xs, u :: us, hτ, hr => by
    unfold immL at hτ ⊢
    simp only [RelL] at hr ⊢
    exact ⟨immV_ok hh hM x u (fun id hid => hτ id (List.mem_append_left _ hid)) hr.1, immL_ok hh hM xs us (fun id hid => hτ id (List.mem_append_right _ hid)) hr.2⟩
  | [], _ :: _, _, hr => by simp only [RelL] at hr
  | _ :: _, [], _, hr => by simp only [RelL] at hr
end

theorem immArgs_ok (hh : HeapRel F ρ h w) {Ml : Nat → Prop} (hM : ∀ b, Ml b → av F (liveM ρ h) b) : ∀ (bs : List Bool) (xs : List V) (us : List Value), (∀ id ∈ (immArgs h bs xs).2, ∀ b n C, ρ id = some ⟨some b, n, C⟩ → (h id).live → ¬ Ml b) → RelL ρ (av F (liveM ρ h)) w xs us → RelL ρ Ml w (immArgs h bs xs).1 us
  | [], xs, us, _, hr => by simp only [immArgs]; exact RelL.avoid hM _ _ hr
  | true :: bs, [], us, _, hr => by simp only [immArgs]; exact RelL.avoid hM _ _ hr
  | false :: bs, [], us, _, hr => by simp only [immArgs]; exact RelL.avoid hM _ _ hr
  | _ :: _, _ :: _, [], _, hr => by simp only [RelL] at hr
  | true :: bs, x :: xs, u :: us, hτ, hr => by
    unfold immArgs at hτ ⊢
    simp only [RelL] at hr ⊢
    exact ⟨immV_ok hh hM x u (fun id hid => hτ id (List.mem_append_left _ hid)) hr.1, immArgs_ok hh hM bs xs us (fun id hid => hτ id (List.mem_append_right _ hid)) hr.2⟩
  | false :: bs, x :: xs, u :: us, hτ, hr => by
    unfold immArgs at hτ ⊢
    simp only [RelL] at hr ⊢
    exact ⟨Rel.avoid hM _ _ hr.1, immArgs_ok hh hM bs xs us hτ hr.2⟩
end
end Go.Proofs.Ytlofhdoefjmabaa.Ev
