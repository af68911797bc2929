-- Plain laws of the row law01: a number's text; the program's way.
import Derived.Test.YtckddgepjhclpaaNc
namespace Go.Proofs.Ytckddgepjhclpaa.NatL
open Go Go.Proofs.Ytckddgepjhclpaa.Ev
set_option linter.unusedVariables false
set_option linter.unusedSimpArgs false

/- Two words put side by side -/
theorem ofInt64_toNat {x : Int} (h0 : 0 ≤ x) (h1 : x < 18446744073709551616) : (BitVec.ofInt 64 x).toNat = x.toNat := by
  rw [BitVec.toNat_ofInt]
  have : x % ((2 ^ 64 : Nat) : Int) = x := by omega
  rw [this]

theorem or_shift {r d : Int} (r0 : 0 ≤ r) (r1 : r < 4294967296) (d0 : 0 ≤ d) (d1 : d < 4294967296) : bit_or .u64 (r * 4294967296) d = r * 4294967296 + d := by
  have e : bit_or .u64 (r * 4294967296) d = IntKind.wrap .u64 ((BitVec.ofInt 64 (r * 4294967296) ||| BitVec.ofInt 64 d).toNat : Int) := rfl
  rw [e, BitVec.toNat_or, ofInt64_toNat (by omega) (by omega), ofInt64_toNat (by omega) (by omega)]
  have h1 : (r * 4294967296).toNat = r.toNat <<< 32 := by rw [Nat.shiftLeft_eq]; omega
  rw [h1, ← Nat.shiftLeft_add_eq_or_of_lt (show d.toNat < 2 ^ 32 by omega), Nat.shiftLeft_eq]
  have : IntKind.wrap .u64 ((r.toNat * 2 ^ 32 + d.toNat : Nat) : Int) = ((r.toNat * 2 ^ 32 + d.toNat : Nat) : Int) := by
    show wu64 _ = _
    exact wu64_id (by omega) (by omega)
  rw [this]
  omega

end Go.Proofs.Ytckddgepjhclpaa.NatL
