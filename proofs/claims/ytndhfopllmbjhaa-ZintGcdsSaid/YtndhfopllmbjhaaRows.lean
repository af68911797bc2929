/-
  No cell of these rows narrows 'for every input' (looked for: loops, veiled, ifaces, maps, wideKeys, modest, calm, conditions, laid).
  DERIVED. THE GIVEN ROWS OF THIS SEAT. 8 by the template 'for every input the law returns true; each argument reads behind the call as it read before'; 0 by the template 'total and deterministic' (their statements: YtndhfopllmbjhaaTotals.lean).
  GIVEN WITH THE SEED: the statements are not yours to turn. If you find one false, say at which input.
  Laid BY PROGRAM, IN A SANDBOX (cutbox-rows.mjs): the forced cells as the released guide's own fill.sh prints them over the translation 784fe0e99d12c731… (all of the seat's roots in one cut). By AI agents, Wed Nov 11 2026. No macro, syntax, notation, axiom, sorry.
-/
import Derived.Test.YtndhfopllmbjhaaChecked
import GoSem.Claim
import GoSem.ClaimJoined
import GoSem.ClaimMapViews
import Derived.JoinedTies
import Derived.KernelRfl
namespace Go.Proofs.Ytndhfopllmbjhaa
/- THE CELL 'sum', in the pinned program and in every row, IS THE sha256 OF THE DUMP (.gsa) THAT YtndhfopllmbjhaaProg.lean LOADS. Nothing in Lean hashes anything: it is a label: what it is worth is what the hold of that sum in a sandbox is worth. -/
noncomputable def Try.pinned : Pinned := { name := "ytndhfopllmbjhaa", sum := "784fe0e99d12c73158644a2045156a75289cb06a04233fc6b180e64648c5b278", checked := Try.checked }
namespace Rows
def none {H : Type} : Left H := { results := [], args := [] }

/-- 'parquetlaw02.ZintTexts': WHATEVER THE INPUT: true; the input reads as it did. -/
def zintTextsSpec : ChangeSpec := { name := "zintTexts", fn := fun _ => fun
  | [d] => { results := [.lit (.bool true)], args := [d] }
  | _ => none }
def zintTextsRow : OpenClaim := { program := "ytndhfopllmbjhaa", sum := "784fe0e99d12c73158644a2045156a75289cb06a04233fc6b180e64648c5b278", func := "parquet/parquetlaw02.ZintTexts", spec := "zintTexts", apart := false }
def ZintTextsSaid : Prop := zintTextsRow.holds Try.pinned (OpenSpec.ofChange zintTextsSpec)

/-- ITS FALSE NEIGHBOUR: 'it returns false'. Refute it at one input. -/
def zintTextsWrong : ChangeSpec := { name := "zintTexts", fn := fun _ => fun
  | [d] => { results := [.lit (.bool false)], args := [d] }
  | _ => none }
def ZintTextsWrongFalsely : Prop := zintTextsRow.holds Try.pinned (OpenSpec.ofChange zintTextsWrong)

/-- 'parquetlaw02.ZintQuos': WHATEVER THE INPUT: true; the input reads as it did. -/
def zintQuosSpec : ChangeSpec := { name := "zintQuos", fn := fun _ => fun
  | [d1, d2] => { results := [.lit (.bool true)], args := [d1, d2] }
  | _ => none }
def zintQuosRow : OpenClaim := { program := "ytndhfopllmbjhaa", sum := "784fe0e99d12c73158644a2045156a75289cb06a04233fc6b180e64648c5b278", func := "parquet/parquetlaw02.ZintQuos", spec := "zintQuos", apart := false }
def ZintQuosSaid : Prop := zintQuosRow.holds Try.pinned (OpenSpec.ofChange zintQuosSpec)

/-- ITS FALSE NEIGHBOUR: 'it returns false'. Refute it at one input. -/
def zintQuosWrong : ChangeSpec := { name := "zintQuos", fn := fun _ => fun
  | [d1, d2] => { results := [.lit (.bool false)], args := [d1, d2] }
  | _ => none }
def ZintQuosWrongFalsely : Prop := zintQuosRow.holds Try.pinned (OpenSpec.ofChange zintQuosWrong)

/-- 'parquetlaw02.ZintWords': WHATEVER THE INPUT: true; the input reads as it did. -/
def zintWordsSpec : ChangeSpec := { name := "zintWords", fn := fun _ => fun
  | [d1, d2, d3, d4] => { results := [.lit (.bool true)], args := [d1, d2, d3, d4] }
  | _ => none }
def zintWordsRow : OpenClaim := { program := "ytndhfopllmbjhaa", sum := "784fe0e99d12c73158644a2045156a75289cb06a04233fc6b180e64648c5b278", func := "parquet/parquetlaw02.ZintWords", spec := "zintWords", apart := false }
def ZintWordsSaid : Prop := zintWordsRow.holds Try.pinned (OpenSpec.ofChange zintWordsSpec)

/-- ITS FALSE NEIGHBOUR: 'it returns false'. Refute it at one input. -/
def zintWordsWrong : ChangeSpec := { name := "zintWords", fn := fun _ => fun
  | [d1, d2, d3, d4] => { results := [.lit (.bool false)], args := [d1, d2, d3, d4] }
  | _ => none }
def ZintWordsWrongFalsely : Prop := zintWordsRow.holds Try.pinned (OpenSpec.ofChange zintWordsWrong)

/-- 'parquetlaw02.ZintSums': WHATEVER THE INPUT: true; the input reads as it did. -/
def zintSumsSpec : ChangeSpec := { name := "zintSums", fn := fun _ => fun
  | [d1, d2] => { results := [.lit (.bool true)], args := [d1, d2] }
  | _ => none }
def zintSumsRow : OpenClaim := { program := "ytndhfopllmbjhaa", sum := "784fe0e99d12c73158644a2045156a75289cb06a04233fc6b180e64648c5b278", func := "parquet/parquetlaw02.ZintSums", spec := "zintSums", apart := false }
def ZintSumsSaid : Prop := zintSumsRow.holds Try.pinned (OpenSpec.ofChange zintSumsSpec)

/-- ITS FALSE NEIGHBOUR: 'it returns false'. Refute it at one input. -/
def zintSumsWrong : ChangeSpec := { name := "zintSums", fn := fun _ => fun
  | [d1, d2] => { results := [.lit (.bool false)], args := [d1, d2] }
  | _ => none }
def ZintSumsWrongFalsely : Prop := zintSumsRow.holds Try.pinned (OpenSpec.ofChange zintSumsWrong)

/-- 'parquetlaw02.ZintRing': WHATEVER THE INPUT: true; the input reads as it did. -/
def zintRingSpec : ChangeSpec := { name := "zintRing", fn := fun _ => fun
  | [d1, d2, d3] => { results := [.lit (.bool true)], args := [d1, d2, d3] }
  | _ => none }
def zintRingRow : OpenClaim := { program := "ytndhfopllmbjhaa", sum := "784fe0e99d12c73158644a2045156a75289cb06a04233fc6b180e64648c5b278", func := "parquet/parquetlaw02.ZintRing", spec := "zintRing", apart := false }
def ZintRingSaid : Prop := zintRingRow.holds Try.pinned (OpenSpec.ofChange zintRingSpec)

/-- ITS FALSE NEIGHBOUR: 'it returns false'. Refute it at one input. -/
def zintRingWrong : ChangeSpec := { name := "zintRing", fn := fun _ => fun
  | [d1, d2, d3] => { results := [.lit (.bool false)], args := [d1, d2, d3] }
  | _ => none }
def ZintRingWrongFalsely : Prop := zintRingRow.holds Try.pinned (OpenSpec.ofChange zintRingWrong)

/-- 'parquetlaw02.ZintGcds': WHATEVER THE INPUT: true; the input reads as it did. -/
def zintGcdsSpec : ChangeSpec := { name := "zintGcds", fn := fun _ => fun
  | [d1, d2] => { results := [.lit (.bool true)], args := [d1, d2] }
  | _ => none }
def zintGcdsRow : OpenClaim := { program := "ytndhfopllmbjhaa", sum := "784fe0e99d12c73158644a2045156a75289cb06a04233fc6b180e64648c5b278", func := "parquet/parquetlaw02.ZintGcds", spec := "zintGcds", unfollowed := true, recurses := true, apart := false }
def ZintGcdsSaid : Prop := zintGcdsRow.holds Try.pinned (OpenSpec.ofChange zintGcdsSpec)

/-- ITS FALSE NEIGHBOUR: 'it returns false'. Refute it at one input. -/
def zintGcdsWrong : ChangeSpec := { name := "zintGcds", fn := fun _ => fun
  | [d1, d2] => { results := [.lit (.bool false)], args := [d1, d2] }
  | _ => none }
def ZintGcdsWrongFalsely : Prop := zintGcdsRow.holds Try.pinned (OpenSpec.ofChange zintGcdsWrong)

/-- 'parquetlaw02.ZintBack': WHATEVER THE INPUT: true; the input reads as it did. -/
def zintBackSpec : ChangeSpec := { name := "zintBack", fn := fun _ => fun
  | [d1, d2, d3] => { results := [.lit (.bool true)], args := [d1, d2, d3] }
  | _ => none }
def zintBackRow : OpenClaim := { program := "ytndhfopllmbjhaa", sum := "784fe0e99d12c73158644a2045156a75289cb06a04233fc6b180e64648c5b278", func := "parquet/parquetlaw02.ZintBack", spec := "zintBack", unfollowed := true, recurses := true, apart := false }
def ZintBackSaid : Prop := zintBackRow.holds Try.pinned (OpenSpec.ofChange zintBackSpec)

/-- ITS FALSE NEIGHBOUR: 'it returns false'. Refute it at one input. -/
def zintBackWrong : ChangeSpec := { name := "zintBack", fn := fun _ => fun
  | [d1, d2, d3] => { results := [.lit (.bool false)], args := [d1, d2, d3] }
  | _ => none }
def ZintBackWrongFalsely : Prop := zintBackRow.holds Try.pinned (OpenSpec.ofChange zintBackWrong)

/-- 'parquetlaw02.ZintKnown': WHATEVER THE INPUT: true; the input reads as it did. -/
def zintKnownSpec : ChangeSpec := { name := "zintKnown", fn := fun _ => fun
  | [] => { results := [.lit (.bool true)], args := [] }
  | _ => none }
def zintKnownRow : OpenClaim := { program := "ytndhfopllmbjhaa", sum := "784fe0e99d12c73158644a2045156a75289cb06a04233fc6b180e64648c5b278", func := "parquet/parquetlaw02.ZintKnown", spec := "zintKnown", unfollowed := true, recurses := true, apart := false }
def ZintKnownSaid : Prop := zintKnownRow.holds Try.pinned (OpenSpec.ofChange zintKnownSpec)

/-- ITS FALSE NEIGHBOUR: 'it returns false'. Refute it at one input. -/
def zintKnownWrong : ChangeSpec := { name := "zintKnown", fn := fun _ => fun
  | [] => { results := [.lit (.bool false)], args := [] }
  | _ => none }
def ZintKnownWrongFalsely : Prop := zintKnownRow.holds Try.pinned (OpenSpec.ofChange zintKnownWrong)

/- THE SECOND FORM. 'bulk': how many values and letters a reading holds, each counted each time it is reached (what is shared counts as often as it is met; a slice's spare places count too). A statement '..UptoSaid' is the law's where the arguments, and the package variables that the reading takes, are together of bulk at most 1048576: NARROWER than '..Said'. Prove '..Said' where nothing that the law and all that it calls make is longer than what came in: it says more and counts as full. Else prove '..UptoSaid'. A law counts once. -/
mutual
def uptoBulk {H : Type} : DataW H → Nat
  | .lit (.string bytes) => bytes.length + 1
  | .lit _ => 1
  | .nil => 1
  | .ptr d => uptoBulk d + 1
  | .slice elems spare => uptoBulkAll elems + uptoBulkAll spare + 1
  | .agg parts => uptoBulkAll parts + 1
  | .iface _ d => uptoBulk d + 1
  | .map entries => uptoBulkEntries entries + 1
  | .held _ => 1
def uptoBulkAll {H : Type} : List (DataW H) → Nat
  | [] => 0
  | d :: r => uptoBulk d + uptoBulkAll r
def uptoBulkEntries {H : Type} : List (Lit × DataW H) → Nat
  | [] => 0
  | x :: r => uptoBulkEntry x + uptoBulkEntries r
def uptoBulkEntry {H : Type} : Lit × DataW H → Nat
  | (.string bytes, d) => bytes.length + uptoBulk d + 1
  | (_, d) => uptoBulk d + 1
 end
def uptoSmall : (H : Type) → List (DataW H) → Bool := fun _ ds => decide (uptoBulkAll ds ≤ 1048576)
def OpenSpec.upto (s : _root_.Go.ChangeSpec) : _root_.Go.OpenSpec := { _root_.Go.OpenSpec.ofChange s with cond := some uptoSmall }

/-- 'parquetlaw02.ZintTexts', WHERE WHAT IT READS IS OF BULK AT MOST 1048576: true; the input reads as it did. -/
def zintTextsUptoRow : OpenClaim := { program := "ytndhfopllmbjhaa", sum := "784fe0e99d12c73158644a2045156a75289cb06a04233fc6b180e64648c5b278", func := "parquet/parquetlaw02.ZintTexts", spec := "zintTexts", apart := false, narrowed := true }
def ZintTextsUptoSaid : Prop := zintTextsUptoRow.holds Try.pinned (OpenSpec.upto zintTextsSpec)

/-- 'parquetlaw02.ZintQuos', WHERE WHAT IT READS IS OF BULK AT MOST 1048576: true; the input reads as it did. -/
def zintQuosUptoRow : OpenClaim := { program := "ytndhfopllmbjhaa", sum := "784fe0e99d12c73158644a2045156a75289cb06a04233fc6b180e64648c5b278", func := "parquet/parquetlaw02.ZintQuos", spec := "zintQuos", apart := false, narrowed := true }
def ZintQuosUptoSaid : Prop := zintQuosUptoRow.holds Try.pinned (OpenSpec.upto zintQuosSpec)

/-- 'parquetlaw02.ZintWords', WHERE WHAT IT READS IS OF BULK AT MOST 1048576: true; the input reads as it did. -/
def zintWordsUptoRow : OpenClaim := { program := "ytndhfopllmbjhaa", sum := "784fe0e99d12c73158644a2045156a75289cb06a04233fc6b180e64648c5b278", func := "parquet/parquetlaw02.ZintWords", spec := "zintWords", apart := false, narrowed := true }
def ZintWordsUptoSaid : Prop := zintWordsUptoRow.holds Try.pinned (OpenSpec.upto zintWordsSpec)

/-- 'parquetlaw02.ZintSums', WHERE WHAT IT READS IS OF BULK AT MOST 1048576: true; the input reads as it did. -/
def zintSumsUptoRow : OpenClaim := { program := "ytndhfopllmbjhaa", sum := "784fe0e99d12c73158644a2045156a75289cb06a04233fc6b180e64648c5b278", func := "parquet/parquetlaw02.ZintSums", spec := "zintSums", apart := false, narrowed := true }
def ZintSumsUptoSaid : Prop := zintSumsUptoRow.holds Try.pinned (OpenSpec.upto zintSumsSpec)

/-- 'parquetlaw02.ZintRing', WHERE WHAT IT READS IS OF BULK AT MOST 1048576: true; the input reads as it did. -/
def zintRingUptoRow : OpenClaim := { program := "ytndhfopllmbjhaa", sum := "784fe0e99d12c73158644a2045156a75289cb06a04233fc6b180e64648c5b278", func := "parquet/parquetlaw02.ZintRing", spec := "zintRing", apart := false, narrowed := true }
def ZintRingUptoSaid : Prop := zintRingUptoRow.holds Try.pinned (OpenSpec.upto zintRingSpec)

/-- 'parquetlaw02.ZintGcds', WHERE WHAT IT READS IS OF BULK AT MOST 1048576: true; the input reads as it did. -/
def zintGcdsUptoRow : OpenClaim := { program := "ytndhfopllmbjhaa", sum := "784fe0e99d12c73158644a2045156a75289cb06a04233fc6b180e64648c5b278", func := "parquet/parquetlaw02.ZintGcds", spec := "zintGcds", unfollowed := true, recurses := true, apart := false, narrowed := true }
def ZintGcdsUptoSaid : Prop := zintGcdsUptoRow.holds Try.pinned (OpenSpec.upto zintGcdsSpec)

/-- 'parquetlaw02.ZintBack', WHERE WHAT IT READS IS OF BULK AT MOST 1048576: true; the input reads as it did. -/
def zintBackUptoRow : OpenClaim := { program := "ytndhfopllmbjhaa", sum := "784fe0e99d12c73158644a2045156a75289cb06a04233fc6b180e64648c5b278", func := "parquet/parquetlaw02.ZintBack", spec := "zintBack", unfollowed := true, recurses := true, apart := false, narrowed := true }
def ZintBackUptoSaid : Prop := zintBackUptoRow.holds Try.pinned (OpenSpec.upto zintBackSpec)

/-- 'parquetlaw02.ZintKnown', WHERE WHAT IT READS IS OF BULK AT MOST 1048576: true; the input reads as it did. -/
def zintKnownUptoRow : OpenClaim := { program := "ytndhfopllmbjhaa", sum := "784fe0e99d12c73158644a2045156a75289cb06a04233fc6b180e64648c5b278", func := "parquet/parquetlaw02.ZintKnown", spec := "zintKnown", unfollowed := true, recurses := true, apart := false, narrowed := true }
def ZintKnownUptoSaid : Prop := zintKnownUptoRow.holds Try.pinned (OpenSpec.upto zintKnownSpec)

end Rows
end Go.Proofs.Ytndhfopllmbjhaa
