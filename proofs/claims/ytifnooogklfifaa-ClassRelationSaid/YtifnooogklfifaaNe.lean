-- Plain laws of the row law01: a number's text; the program's way.
import Derived.Test.YtifnooogklfifaaNc
import Derived.KernelRfl
namespace Go.Proofs.Ytifnooogklfifaa.NatL
open Go Go.Proofs.Ytifnooogklfifaa.Ev
set_option linter.unusedVariables false
set_option linter.unusedSimpArgs false

/- Two words put side by side -/
theorem ofInt64_toNat {x : Int} (h0 : 0 ≤ x) (h1 : x < 18446744073709551616) : (BitVec.ofInt 64 x).toNat = x.toNat := by
  rw [BitVec.toNat_ofInt]
  have : x % ((2 ^ 64 : Nat) : Int) = x := by omega
  rw [this]

theorem or_shift {r d : Int} (r0 : 0 ≤ r) (r1 : r < 4294967296) (d0 : 0 ≤ d) (d1 : d < 4294967296) : bit_or .u64 (r * 4294967296) d = r * 4294967296 + d := by
  have e : bit_or .u64 (r * 4294967296) d = IntKind.wrap .u64 ((BitVec.ofInt 64 (r * 4294967296) ||| BitVec.ofInt 64 d).toNat : Int) := rfl
  rw [e, BitVec.toNat_or, ofInt64_toNat (by omega) (by omega), ofInt64_toNat (by omega) (by omega)]
  have h1 : (r * 4294967296).toNat = r.toNat <<< 32 := by rw [Nat.shiftLeft_eq]; omega
  rw [h1, ← Nat.shiftLeft_add_eq_or_of_lt (show d.toNat < 2 ^ 32 by omega), Nat.shiftLeft_eq]
  have : IntKind.wrap .u64 ((r.toNat * 2 ^ 32 + d.toNat : Nat) : Int) = ((r.toNat * 2 ^ 32 + d.toNat : Nat) : Int) := by
    show wu64 _ = _
    exact wu64_id (by omega) (by omega)
  rw [this]
  omega

/- Dividing by one digit -/
theorem short_loop (N : Nat) {R : Type} (by_ : Int) (b0 : 0 < by_) (b1 : by_ < 4294967296) (m : Nat) (hm : m ≤ 1000000000) (K0 : Int → List Int → Option R) : ∀ (n j : Nat) (r : Int) (l : List Int), Dig (4294967296 : Int) l → m ≤ l.length → j ≤ m → j < n → 0 ≤ r → r < by_ →
    ∃ r' l', Dig (4294967296 : Int) l' ∧ l'.length = l.length ∧ 0 ≤ r' ∧ r' < by_ ∧
      by_ * nv (4294967296 : Int) (l'.take m) + r' = by_ * (4294967296 : Int) ^ j * nv (4294967296 : Int) ((l.take m).drop j) + r * (4294967296 : Int) ^ j + nv (4294967296 : Int) ((l.take m).take j) ∧
      nat_short.l3 N n 0 m by_ r ((j : Int) - 1) l K0 = K0 r' l' := by
  intro n
  induction n with
  | zero => intro j r l _ _ _ h; omega
  | succ n ih =>
    intro j r l hd hl hj hn r0 r1
    rw [nat_short.l3]
    cases j with
    | zero =>
      refine ⟨r, l, hd, rfl, r0, r1, by simp [nv], rfl⟩
    | succ j =>
      have e0 : ((j + 1 : Nat) : Int) - 1 = (j : Int) := by omega
      have e3 : wi64 ((j : Int) - 1) = (j : Int) - 1 := wi64_id (by omega) (by omega)
      have c1 : (decide (0 ≤ (j : Int)) && decide ((j : Int) < (m : Int))) = true := by simp; omega
      have c0 : decide ((j : Int) ≥ 0) = true := decide_eq_true (by omega)
      have e2 : 0 + (j : Int).toNat = j := by omega
      have hx := hd.get (by decide) j
      have p32 : (2 : Int) ^ 32 = 4294967296 := by decide
      rw [e0, c1, c0, e2, e3, p32]
      simp only [cond_true]
      have wb : wu64 by_ = by_ := wu64_id (by omega) (by omega)
      have cb : (by_ == 0) = false := by simp; omega
      rw [wb, cb]
      simp only [Bool.not_false, cond_true]
      rw [wu64_id (n := r * 4294967296) (by omega) (by omega), wu64_id (n := l.getD j 0) (by omega) (by omega), or_shift r0 (by omega) hx.1 hx.2]
      generalize hxx : r * 4294967296 + l.getD j 0 = x
      have x0 : 0 ≤ x := by omega
      have h1 := Int.mul_ediv_add_emod x by_
      have h2 := Int.emod_nonneg x (b := by_) (by omega)
      have h3 := Int.emod_lt_of_pos x b0
      have hq0 : 0 ≤ x / by_ := Int.ediv_nonneg x0 (by omega)
      have hq1 : x / by_ < 4294967296 := by
        rw [Int.ediv_lt_iff_lt_mul b0]
        have := Int.mul_le_mul_of_nonneg_left (show r + 1 ≤ by_ by omega) (show (0 : Int) ≤ 4294967296 by decide)
        omega
      rw [tdiv_nn x0, tmod_nn x0, wu64_id (n := x / by_) hq0 (by omega), wu32_id hq0 hq1]
      obtain ⟨r', l', g1, g2, g3, g4, g5, g6⟩ := ih j (x % by_) (l.set j (x / by_)) (hd.set _ hq0 hq1) (by simpa using hl) (by omega) (by omega) h2 h3
      refine ⟨r', l', g1, by simpa using g2, g3, g4, ?_, g6⟩
      have hlen : (l.take m).length = m := by rw [List.length_take]; omega
      have hset : (l.set j (x / by_)).take m = (l.take m).set j (x / by_) := List.take_set ..
      have hdrop : ((l.take m).set j (x / by_)).drop (j + 1) = (l.take m).drop (j + 1) := by simp [List.drop_set]
      have htake : ((l.take m).set j (x / by_)).take j = (l.take m).take j := by
        rw [List.take_set, List.set_eq_of_length_le (by rw [List.length_take]; omega)]
      have hget : ((l.take m).set j (x / by_)).getD j 0 = x / by_ := by
        rw [List.getD_eq_getElem?_getD, List.getElem?_set_self (by omega)]; rfl
      have hn1 := nv_drop (4294967296 : Int) ((l.take m).set j (x / by_)) j (by simp; omega)
      have hn2 := nv_take_succ (4294967296 : Int) (l.take m) j (by omega)
      have hg2 : (l.take m).getD j 0 = l.getD j 0 := getD_take (by omega)
      rw [hdrop, hget] at hn1
      rw [hg2] at hn2
      rw [g5, hset, hn1, htake, hn2, Int.pow_succ]
      generalize x / by_ = q at *
      generalize x % by_ = z at *
      have ez : z = x - by_ * q := by omega
      subst ez
      subst hxx
      grind

theorem short_model {N : Nat} (hN : 1000000001 < N) {l : List Int} (hd : Dig (4294967296 : Int) l) {m : Nat} (hm : m ≤ l.length) (hm2 : m ≤ 1000000000) {by_ : Int} (b0 : 0 < by_) (b1 : by_ < 4294967296) :
    ∃ l', Dig (4294967296 : Int) l' ∧ l'.length = l.length ∧ nv (4294967296 : Int) (l'.take m) = nv (4294967296 : Int) (l.take m) / by_ ∧ nat_short.f N 0 m by_ l = some (nv (4294967296 : Int) (l.take m) % by_, l') := by
  obtain ⟨r', l', g1, g2, g3, g4, g5, g6⟩ := short_loop N by_ b0 b1 m hm2 (fun y13 y14 => some (wu32 y13, y14)) N m 0 l hd hm (Nat.le_refl _) (by omega) (Int.le_refl _) b0
  have hlen : (l.take m).length = m := by rw [List.length_take]; omega
  have e1 : (l.take m).drop m = [] := List.drop_eq_nil_iff.mpr (by omega)
  have e2 : (l.take m).take m = l.take m := List.take_of_length_le (by omega)
  rw [e1, e2] at g5
  simp only [nv, Int.mul_zero, Int.zero_mul, Int.zero_add] at g5
  have hu := (Int.ediv_emod_unique (a := nv (4294967296 : Int) (l.take m)) (r := r') (q := nv (4294967296 : Int) (l'.take m)) b0).mpr ⟨by omega, g3, g4⟩
  refine ⟨l', g1, g2, hu.1.symm, ?_⟩
  unfold nat_short.f
  rw [wi64_id (n := (m : Int) - 1) (by omega) (by omega), g6, wu32_id g3 (by omega), hu.2]


end Go.Proofs.Ytifnooogklfifaa.NatL
