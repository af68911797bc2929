-- The row of the law ZintBack: its function's law, and its plain law.
import Derived.Test.YtndhfopllmbjhaaPr
import Derived.Test.YtndhfopllmbjhaaRows
import Derived.Test.YtndhfopllmbjhaaEvRow
namespace Go.Proofs.Ytndhfopllmbjhaa.zintBack
open Go Go.ChangeShapes Go.WideShapes Go.ChangeAt Go.RowKit Go.Proofs.Ytndhfopllmbjhaa.Ev
open Go.ChangeMaps (open_string shut_string)
set_option linter.unusedVariables false
theorem own : ownKnob Try.prog.godebug = none := by kernel_rfl
theorem laidOut : laidOutB Try.prog = true := by kernel_rfl
set_option maxRecDepth 100000 in
theorem lifted (os : Os) (started : os.Started) (H : Type) (enc : TypeId × Value → H) :
    ReturnsInHanded {} Try.checked os 9 .any (Rows.zintBackSpec.pre6 enc Try.prog Try.f9 Rows.zintBackRow.domain false) (Rows.zintBackSpec.post enc Try.prog Try.f9 false true false false) := by
  refine returnsInHanded_of_change_sized (C := Try.checked) own started (by kernel_rfl) Try.func9
    (ChangeSpec.witness6 (enc := enc) (C := Try.checked) false ⟨#[], #[.agg #[.bool false, .slice none 0 0], .agg #[.bool false, .slice none 0 0], .agg #[.bool false, .slice none 0 0]], []⟩ 8 (by kernel_rfl) (by kernel_rfl) (by kernel_rfl) (by kernel_rfl)) ?_
  intro W base args ds gs before hval0 hW hcnd hsz0 _
  have hsz : (DataW.weightsEach Try.prog (Try.f9.params.toList ++ Rows.zintBackSpec.plain.varTypes Try.prog) (ds ++ gs)).all (· ≤ reachBytes) = true := hsz0
  have hval : ∀ (j : Nat) t v, Try.f9.params[j]? = some t → args[j]? = some v → Value.okWide Try.prog W .any base t v := hval0
  have hW' := hW
  obtain ⟨p, q, hA0, hV, rfl, hfz, hnd⟩ := hW
  have hA : DataW.TrodAll enc Try.prog W 0 (fun _ => true) true Try.f9.params.toList args.toList ds p := hA0
  rw [Try.params9] at hA hval hsz
  obtain ⟨v0, vs0, d0, ds0, p0, q0, hargs, rfl, rfl, h0, r0⟩ := trodAll_cons hA
  obtain ⟨v1, vs1, d1, ds1, p1, q1, rfl, rfl, rfl, h1, r1⟩ := trodAll_cons r0
  obtain ⟨v2, vs2, d2, ds2, p2, q2, rfl, rfl, rfl, h2, r2⟩ := trodAll_cons r1
  obtain ⟨rfl, rfl, rfl⟩ := trodAll_nil r2
  obtain rfl : args = #[v0, v1, v2] := by cases args; simp_all
  obtain ⟨rfl, rfl⟩ := trodVars_none hV
  have k0 := h0
  obtain ⟨a0, s0, l0, rfl, rw0, ws0⟩ := read_big Try.underlying41 (by kernel_rfl) rfl rfl (by kernel_rfl) (by kernel_rfl) Try.underlying4 Try.underlying39 Try.underlying87 (by kernel_rfl) (by kernel_rfl) (hval 0 41 v0 rfl rfl) h0
  have k1 := h1
  obtain ⟨a1, s1, l1, rfl, rw1, ws1⟩ := read_big Try.underlying41 (by kernel_rfl) rfl rfl (by kernel_rfl) (by kernel_rfl) Try.underlying4 Try.underlying39 Try.underlying87 (by kernel_rfl) (by kernel_rfl) (hval 1 41 v1 rfl rfl) h1
  have k2 := h2
  obtain ⟨a2, s2, l2, rfl, rw2, ws2⟩ := read_big Try.underlying41 (by kernel_rfl) rfl rfl (by kernel_rfl) (by kernel_rfl) Try.underlying4 Try.underlying39 Try.underlying87 (by kernel_rfl) (by kernel_rfl) (hval 2 41 v2 rfl rfl) h2
  obtain ⟨N, hN⟩ := Pure.ZintBack a0 l0 a1 l1 a2 l2 ws0 ws1 ws2
  refine (FnSpec.calls0 (w := W) (args' := [_, _, _]) (parquetlaw02_ZintBack.spec N a0 l0 a1 l1 a2 l2 _ hN) (by simp only [RelL]; exact ⟨(rel_big rw0), (rel_big rw1), (rel_big rw2), trivial⟩)).mono fun e W' ⟨u, he, hu, bel⟩ => ?_
  simp only [Rel] at hu
  subst hu
  subst he
  exact ⟨_, rfl, _, _, _, [], _, [], hW', trodAll_mk1 (shut_bool Try.underlying4 _), (trodAll_cons_mk (Below.trod laidOut (by kernel_rfl) (of_decide_eq_true (by kernel_rfl)) k0 bel (Trod.lt k0)) (trodAll_cons_mk (Below.trod laidOut (by kernel_rfl) (of_decide_eq_true (by kernel_rfl)) k1 bel (Trod.lt k1)) (trodAll_cons_mk (Below.trod laidOut (by kernel_rfl) (of_decide_eq_true (by kernel_rfl)) k2 bel (Trod.lt k2)) trodAll_mk0))), rfl, bel.frame _, fun h => by cases h⟩
theorem over : Rows.zintBackRow.holds Try.pinned (OpenSpec.ofChange Rows.zintBackSpec) :=
  OpenClaim.holds_of_wide 9 Try.f9 rfl rfl rfl rfl rfl rfl rfl ⟨rfl, rfl, rfl, rfl, rfl⟩ rfl rfl rfl rfl rfl (by kernel_rfl) Try.func9 (by kernel_rfl)
    (of_decide_eq_true (by kernel_rfl)) (by unfold Func.isWrapper; first | (rw [if_pos (by decide +kernel)]; kernel_rfl) | (rw [if_neg (by decide +kernel)]; exact ⟨rfl, rfl⟩))
    (fun os started H enc _ => lifted os started H enc)
theorem proved : Rows.ZintBackSaid := over
end Go.Proofs.Ytndhfopllmbjhaa.zintBack
namespace Go.Proofs.Ytndhfopllmbjhaa
/-- The row, under a short name, for the claim. -/
theorem zintBack_holds : Rows.ZintBackSaid := zintBack.proved
end Go.Proofs.Ytndhfopllmbjhaa
