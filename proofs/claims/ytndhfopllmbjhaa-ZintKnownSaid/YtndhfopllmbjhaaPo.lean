-- Plain laws of the row law02: ZintKnown (closed).
import Derived.Test.YtndhfopllmbjhaaT6
import Derived.KernelRfl
namespace Go.Proofs.Ytndhfopllmbjhaa.Pure
open Go Go.Proofs.Ytndhfopllmbjhaa.Ev

theorem ZintKnown : ∃ N, parquetlaw02_ZintKnown.f N = some true := ⟨8589934700, by kernel_rfl⟩

end Go.Proofs.Ytndhfopllmbjhaa.Pure
