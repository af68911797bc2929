-- The class number relation's two sides, as one number each (no program in sight).
import Derived.Test.YtifnooogklfifaaMa
namespace Go.Proofs.Ytifnooogklfifaa.Ser
set_option linter.unusedVariables false

abbrev BB : Nat := 281474976710656
def gSq (X m : Nat) : Nat := (X ^ (m + 1) - 1) / (X - 1)
def ps0 : Nat → Nat
  | 0 => 0
  | K + 1 => BB ^ (2 * K + 1) * ps0 K + 1
def ps1 : Nat → Nat
  | 0 => 0
  | K + 1 => BB ^ (2 * K) * ps1 K + 1
def vb0 (a S K p : Nat) : Nat :=
  6 * BB ^ (a * a) + 12 * (BB ^ (a * (a + 1)) * S) + (12 * (BB ^ (a * a - K * K) * p) + 24 * (BB ^ (a * (a + 1) - K * K) * p * S)) +
    (bif Nat.beq (a % 2) 0 then 4 * BB ^ (a * a - (a / 2) * (a / 2)) + 12 * (BB ^ (a * (a + 1) - (a / 2) * (a / 2)) * S) else 0)
def vb1 (a S K p : Nat) : Nat :=
  12 * (BB ^ (a * a - (K * K - K)) * p) + 24 * (BB ^ (a * (a + 1) - (K * K - K)) * p * S) +
    (bif Nat.beq (a % 2) 1 then 4 * BB ^ (a * a - (((a + 1) / 2) * ((a + 1) / 2) - (a + 1) / 2)) + 12 * (BB ^ (a * (a + 1) - (((a + 1) / 2) * ((a + 1) / 2) - (a + 1) / 2)) * S) else 0)
def vE0 : Nat → Nat
  | 0 => 0
  | a + 1 => vE0 a + vb0 (a + 1) (gSq (BB ^ (a + 1)) (16384 / (a + 1))) (a / 2) (ps0 (a / 2))
def vE1 : Nat → Nat
  | 0 => 0
  | a + 1 => vE1 a + vb1 (a + 1) (gSq (BB ^ (a + 1)) (16384 / (a + 1))) ((a + 1) / 2) (ps1 ((a + 1) / 2))
def vd (d m x S : Nat) : Nat := 12 * d * BB ^ (d * d) + BB ^ (d * (d + 1)) * (24 * (d + 1) * S + 24 * ((m * x ^ (m + 1) + 1 - S) / (x - 1)))
def vD : Nat → Nat
  | 0 => 0
  | d + 1 => vD d + vd (d + 1) (16384 / (d + 1)) (BB ^ (d + 1)) (gSq (BB ^ (d + 1)) (16384 / (d + 1)))
def vT0 : Nat → Nat
  | 0 => 0
  | s + 1 => vT0 s + 2 * BB ^ ((s + 1) * (s + 1))
def vT1 : Nat → Nat
  | 0 => 0
  | s + 1 => vT1 s + 2 * BB ^ ((s + 1) * (s + 1) - (s + 1))
def vL (p h k : Nat) : Nat := (vE0 p * (1 + vT0 h) + vE1 p * vT1 h) % BB ^ k
def vR (h k : Nat) : Nat := (vD h + vT0 h) % BB ^ k
theorem vLR : Nat.beq (vL 147 128 16385) (vR 128 16385) = true := by kernel_rfl
theorem vL_eq {p h k : Nat} (hp : p = 147) (hh : h = 128) (hk : k = 16385) : vL p h k = vR h k := by
  subst hp; subst hh; subst hk
  exact Nat.eq_of_beq_eq_true vLR
end Go.Proofs.Ytifnooogklfifaa.Ser
