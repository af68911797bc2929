-- Plain law of the row law08: BinaryKnown.
import Derived.Test.YtckddgepjhclpaaT6
import Derived.KernelRfl
namespace Go.Proofs.Ytckddgepjhclpaa.Pure
open Go Go.Proofs.Ytckddgepjhclpaa.Ev
theorem BinaryKnown : ∃ N, parquetlaw08_BinaryKnown.f N = some true := ⟨8589934700, by kernel_rfl⟩
end Go.Proofs.Ytckddgepjhclpaa.Pure
