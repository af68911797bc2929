-- Plain laws of the row law09: CycleSteps and CycleTurns.
import Derived.Test.YtlofhdoefjmabaaPc
import Derived.KernelRfl
namespace Go.Proofs.Ytlofhdoefjmabaa.Pure
open Go Go.Proofs.Ytlofhdoefjmabaa.Ev
set_option linter.unusedVariables false
set_option linter.unusedSimpArgs false

theorem works_true : parquetlaw09_works.f 8589934700 = some true := by kernel_rfl

theorem refused {N e a b c : Int} {M : Nat} (h : cycle_Check.f M a b c = some e) (he : e ≠ 0) : cycle_Next.f M a b c = some (0, 0, 0, 0, 0, 0, 0, e) ∧ cycle_Reduce.f M a b c = some (0, 0, 0, 0, 0, 0, 0, e) ∧ cycle_Reduced.f M a b c = some false := by
  unfold cycle_Next.f cycle_Reduce.f cycle_Reduced.f
  rw [h]
  have e1 : (e != 0) = true := by simpa using he
  have e2 : (e == 0) = false := by simpa using he
  simp [e1, e2]

theorem Next_good {N : Nat} (hN : 8589934600 < N) {d s a b c : Int} (hd : Cross d s) (h : Good d a b c) : cycle_Next.f N a b c = some (c, nB s b c, nC s a b c, 0, -1, 1, nK s b c, 0) := by
  obtain ⟨x, hr, r1, r2⟩ := root_model hN hd.d1 hd.d2
  have := hr.unique hd.root
  subst this
  unfold cycle_Next.f cycle_disc.f
  rw [(check_good hN hd h).1, disc_id h]
  simp [r1, next_model N hd h]

theorem CycleSteps (a1 a2 a3 : Int) (w1 : (Lit.int .i64 a1).wf = true) (w2 : (Lit.int .i64 a2).wf = true) (w3 : (Lit.int .i64 a3).wf = true) : ∃ N, parquetlaw09_CycleSteps.f N a1 a2 a3 = some true := by
  refine ⟨8589934700, ?_⟩
  have hN : 8589934600 < 8589934700 := by decide
  obtain ⟨e, h1, h2, h3⟩ := check_model hN a1 a2 a3
  unfold parquetlaw09_CycleSteps.f
  rw [h1, h2]
  by_cases he : e = 0
  · subst he
    obtain ⟨d, s, hd, hg⟩ := h3 rfl
    obtain ⟨a', b', c', p, q, r, t, g1, g2, g3, g4, g5⟩ := reduce_model hN hd hg
    obtain ⟨_, k2, k3⟩ := reduced_model hN hd hg
    rw [Next_good hN hd hg, g1, g2, Next_model hN hd hg, k2, k3, works_true]
    simp
  · obtain ⟨r1, r2, r3⟩ := refused (N := 0) h1 he
    rw [r1, r2, r3, works_true]
    have e1 : (e != 0) = true := by simpa using he
    simp [e1]

theorem wi64_of {x y : Int} (h : wd x = wd y) (h1 : -9223372036854775808 ≤ y) (h2 : y < 9223372036854775808) : wi64 x = y := by
  rw [wi64_eq, h, ← wi64_eq, wi64_id h1 h2]

theorem turned_model (N : Nat) {d a b c a' b' c' p q r t : Int} (h : Good d a' b' c') (ht : Turned (wd a) (wd b) (wd c) (wd a') (wd b') (wd c') (wd p) (wd q) (wd r) (wd t)) : parquetlaw09_turned.f N a b c p q r t = some (a', b', c') ∧ wi64 (wi64 (p * t) - wi64 (q * r)) = 1 := by
  obtain ⟨a0, a1, b0, b1, c0, c1, _⟩ := h
  obtain ⟨ea, eb, ec, det⟩ := ht
  have z2 : wd 2 = 2 := rfl
  unfold parquetlaw09_turned.f
  refine ⟨?_, ?_⟩
  · congr 1
    refine Prod.ext ?_ (Prod.ext ?_ ?_)
    · refine wi64_of ?_ (by dsimp only; omega) (by dsimp only; omega)
      simp only [wd_wi64, wd_add, wd_mul]
      rw [ea]
    · refine wi64_of ?_ (by dsimp only; omega) (by dsimp only; omega)
      simp only [wd_wi64, wd_add, wd_mul, z2]
      rw [eb]
    · refine wi64_of ?_ (by dsimp only; omega) (by dsimp only; omega)
      simp only [wd_wi64, wd_add, wd_mul]
      rw [ec]
  · refine wi64_of ?_ (by decide) (by decide)
    simp only [wd_wi64, wd_sub, wd_mul]
    rw [det]; rfl

theorem small_some (N : Nat) (p q r t : Int) : ∃ x, parquetlaw09_small.f N p q r t = some x := by
  unfold parquetlaw09_small.f
  cases decide (p < -16384) <;> cases decide (p > 16384) <;> cases decide (q < -16384) <;> cases decide (q > 16384) <;> cases decide (r < -16384) <;> cases decide (r > 16384) <;> cases decide (t < -16384) <;> cases decide (t > 16384) <;> simp

theorem Turned.next {d s a b c : Int} (hd : Cross d s) (h : Good d a b c) : Turned (wd a) (wd b) (wd c) (wd c) (wd (nB s b c)) (wd (nC s a b c)) (wd 0) (wd (-1)) (wd 1) (wd (nK s b c)) := by
  have hs := (Turned.one (wd a) (wd b) (wd c)).step (k := wd (nK s b c))
  have e1 : wd (nB s b c) = 2 * wd c * wd (nK s b c) - wd b := by
    rw [(nB_spec s b c (h.ane hd).2).2.2, wd_sub, wd_mul, wd_mul]; rfl
  have e2 : wd (nC s a b c) = wd a - wd b * wd (nK s b c) + wd c * wd (nK s b c) * wd (nK s b c) := by
    unfold nC; rw [wd_add, wd_sub, wd_mul, wd_mul, wd_mul]
  have z0 : wd 0 = 0 := rfl
  have z1 : wd 1 = 1 := rfl
  have zm : wd (-1) = -1 := rfl
  rw [e1, e2, z0, z1, zm]
  have f2 : -(1 : W) + 0 * wd (nK s b c) = -1 := by grind
  have f4 : -(0 : W) + 1 * wd (nK s b c) = wd (nK s b c) := by grind
  rw [f2, f4] at hs
  exact hs

theorem CycleTurns (a1 a2 a3 : Int) (w1 : (Lit.int .i64 a1).wf = true) (w2 : (Lit.int .i64 a2).wf = true) (w3 : (Lit.int .i64 a3).wf = true) : ∃ N, parquetlaw09_CycleTurns.f N a1 a2 a3 = some true := by
  refine ⟨8589934700, ?_⟩
  have hN : 8589934600 < 8589934700 := by decide
  obtain ⟨e, h1, h2, h3⟩ := check_model hN a1 a2 a3
  unfold parquetlaw09_CycleTurns.f
  rw [works_true, h1]
  by_cases he : e = 0
  · subst he
    obtain ⟨d, s, hd, hg⟩ := h3 rfl
    obtain ⟨a', b', c', p, q, r, t, g1, g2, g3, g4, g5⟩ := reduce_model hN hd hg
    obtain ⟨_, k2, k3⟩ := reduced_model hN hd g3
    obtain ⟨x, hx⟩ := small_some 8589934700 0 (-1) 1 (nK s a2 a3)
    obtain ⟨y, hy⟩ := small_some 8589934700 p q r t
    obtain ⟨t1, t2⟩ := turned_model 8589934700 (hg.next hd).1 (Turned.next hd hg)
    obtain ⟨t3, t4⟩ := turned_model 8589934700 g3 g5
    rw [Next_good hN hd hg, g1]
    unfold parquetlaw09_disc.f
    simp only [Option.bind_some, Bool.not_true, cond_false, bne_self_eq_false, disc_id hg, disc_id g3, disc_id (hg.next hd).1, k3, g4, decide_true, hx, hy, t1, t2, t3, t4, beq_self_eq_true, Bool.and_self]
    cases x <;> cases y <;> simp
  · obtain ⟨r1, r2, r3⟩ := refused (N := 0) h1 he
    rw [r1, r2]
    have e1 : (e != 0) = true := by simpa using he
    simp [e1]

end Go.Proofs.Ytlofhdoefjmabaa.Pure
