-- Plain law of the row BinaryPropers.
import Derived.Test.YtckddgepjhclpaaPc
import Derived.KernelRfl
namespace Go.Proofs.Ytckddgepjhclpaa.Pure
open Go Go.Proofs.Ytckddgepjhclpaa.Ev
set_option linter.unusedVariables false

theorem wakes_model : parquetlaw08_wakes.f 8589934700 = some true := by kernel_rfl

theorem propers_model {N : Nat} (hN : 8589934600 < N) (a b c d e f : Int) : ∃ r, binary_Proper.f N a b c d e f = some r ∧ parquetref08_Proper.f N a b c d e f = some r := by
  unfold binary_Proper.f parquetref08_Proper.f
  obtain ⟨a1, b1, c1, p1, q1, r1, s1, e1, h1, h2, _⟩ := reduce_model hN a b c
  obtain ⟨a2, b2, c2, p2, q2, r2, s2, e2, k1, k2, _⟩ := reduce_model hN d e f
  rw [h1, h2, k1, k2]
  simp only [Option.bind_some]
  cases hx : (e1 != 0)
  · simp only [cond_false]
    cases hy : (e2 != 0)
    · have : e2 = 0 := by simpa using hy
      subst this
      exact ⟨_, rfl, rfl⟩
    · have : (e2 == 0) = false := by simpa using hy
      simp only [this, cond_false, cond_true]
      exact ⟨_, rfl, rfl⟩
  · exact ⟨_, rfl, rfl⟩

theorem BinaryPropers (a b c d e f : Int) (ha : (Lit.int .i64 a).wf = true) (hb : (Lit.int .i64 b).wf = true) (hc : (Lit.int .i64 c).wf = true) (hd : (Lit.int .i64 d).wf = true) (he : (Lit.int .i64 e).wf = true) (hf : (Lit.int .i64 f).wf = true) : ∃ N, parquetlaw08_BinaryPropers.f N a b c d e f = some true := by
  refine ⟨8589934700, ?_⟩
  obtain ⟨r, h1, h2⟩ := propers_model (N := 8589934700) (by omega) a b c d e f
  unfold parquetlaw08_BinaryPropers.f
  rw [h1, h2, wakes_model]
  simp

end Go.Proofs.Ytckddgepjhclpaa.Pure
