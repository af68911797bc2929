-- Plain law of the row law09: CycleKnown (closed).
import Derived.Test.YtlofhdoefjmabaaT5
namespace Go.Proofs.Ytlofhdoefjmabaa.Pure
open Go Go.Proofs.Ytlofhdoefjmabaa.Ev
set_option maxRecDepth 100000 in
theorem known_true : parquetlaw09_CycleKnown.f 8589934700 = some true := by kernel_rfl
theorem CycleKnown : ∃ N, parquetlaw09_CycleKnown.f N = some true := ⟨8589934700, known_true⟩
end Go.Proofs.Ytlofhdoefjmabaa.Pure
