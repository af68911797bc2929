/-
  No cell of these rows narrows 'for every input' (looked for: loops, veiled, ifaces, maps, wideKeys, modest, calm, conditions, laid).
  DERIVED. THE GIVEN ROWS OF THIS SEAT. 5 by the template 'for every input the law returns true; each argument reads behind the call as it read before'; 0 by the template 'total and deterministic' (their statements: YtbnoablfajmaeaaTotals.lean).
  GIVEN WITH THE SEED: the statements are not yours to turn. If you find one false, say at which input.
  Laid BY PROGRAM, IN A SANDBOX (cutbox-rows.mjs): the forced cells as the released guide's own fill.sh prints them over the translation 880fc9aa10799ed7… (all of the seat's roots in one cut). By AI agents, Wed Nov 11 2026. No macro, syntax, notation, axiom, sorry.
-/
import Derived.Test.YtbnoablfajmaeaaChecked
import GoSem.Claim
import GoSem.ClaimJoined
import GoSem.ClaimMapViews
import Derived.JoinedTies
import Derived.KernelRfl
namespace Go.Proofs.Ytbnoablfajmaeaa
/- THE CELL 'sum', in the pinned program and in every row, IS THE sha256 OF THE DUMP (.gsa) THAT YtbnoablfajmaeaaProg.lean LOADS. Nothing in Lean hashes anything: it is a label: what it is worth is what the hold of that sum in a sandbox is worth. -/
noncomputable def Try.pinned : Pinned := { name := "ytbnoablfajmaeaa", sum := "880fc9aa10799ed7c24e97e8befff2136a9608404855e98e0082eb06fcb8db73", checked := Try.checked }
namespace Rows
def none {H : Type} : Left H := { results := [], args := [] }

/-- 'parquetlaw10.ComposeOnes': WHATEVER THE INPUT: true; the input reads as it did. -/
def composeOnesSpec : ChangeSpec := { name := "composeOnes", fn := fun _ => fun
  | [d] => { results := [.lit (.bool true)], args := [d] }
  | _ => none }
def composeOnesRow : OpenClaim := { program := "ytbnoablfajmaeaa", sum := "880fc9aa10799ed7c24e97e8befff2136a9608404855e98e0082eb06fcb8db73", func := "parquet/parquetlaw10.ComposeOnes", spec := "composeOnes", unfollowed := true, recurses := true, named := ["math/bits.divideError", "math/bits.overflowError"], apart := false }
def ComposeOnesSaid : Prop := composeOnesRow.holds Try.pinned (OpenSpec.ofChange composeOnesSpec)

/-- ITS FALSE NEIGHBOUR: 'it returns false'. Refute it at one input. -/
def composeOnesWrong : ChangeSpec := { name := "composeOnes", fn := fun _ => fun
  | [d] => { results := [.lit (.bool false)], args := [d] }
  | _ => none }
def ComposeOnesWrongFalsely : Prop := composeOnesRow.holds Try.pinned (OpenSpec.ofChange composeOnesWrong)

/-- 'parquetlaw10.ComposeSums': WHATEVER THE INPUT: true; the input reads as it did. -/
def composeSumsSpec : ChangeSpec := { name := "composeSums", fn := fun _ => fun
  | [d1, d2, d3, d4] => { results := [.lit (.bool true)], args := [d1, d2, d3, d4] }
  | _ => none }
def composeSumsRow : OpenClaim := { program := "ytbnoablfajmaeaa", sum := "880fc9aa10799ed7c24e97e8befff2136a9608404855e98e0082eb06fcb8db73", func := "parquet/parquetlaw10.ComposeSums", spec := "composeSums", unfollowed := true, recurses := true, named := ["math/bits.divideError", "math/bits.overflowError"], apart := false }
def ComposeSumsSaid : Prop := composeSumsRow.holds Try.pinned (OpenSpec.ofChange composeSumsSpec)

/-- ITS FALSE NEIGHBOUR: 'it returns false'. Refute it at one input. -/
def composeSumsWrong : ChangeSpec := { name := "composeSums", fn := fun _ => fun
  | [d1, d2, d3, d4] => { results := [.lit (.bool false)], args := [d1, d2, d3, d4] }
  | _ => none }
def ComposeSumsWrongFalsely : Prop := composeSumsRow.holds Try.pinned (OpenSpec.ofChange composeSumsWrong)

/-- 'parquetlaw10.ComposeGroup': WHATEVER THE INPUT: true; the input reads as it did. -/
def composeGroupSpec : ChangeSpec := { name := "composeGroup", fn := fun _ => fun
  | [d1, d2, d3, d4] => { results := [.lit (.bool true)], args := [d1, d2, d3, d4] }
  | _ => none }
def composeGroupRow : OpenClaim := { program := "ytbnoablfajmaeaa", sum := "880fc9aa10799ed7c24e97e8befff2136a9608404855e98e0082eb06fcb8db73", func := "parquet/parquetlaw10.ComposeGroup", spec := "composeGroup", unfollowed := true, recurses := true, named := ["math/bits.divideError", "math/bits.overflowError"], apart := false }
def ComposeGroupSaid : Prop := composeGroupRow.holds Try.pinned (OpenSpec.ofChange composeGroupSpec)

/-- ITS FALSE NEIGHBOUR: 'it returns false'. Refute it at one input. -/
def composeGroupWrong : ChangeSpec := { name := "composeGroup", fn := fun _ => fun
  | [d1, d2, d3, d4] => { results := [.lit (.bool false)], args := [d1, d2, d3, d4] }
  | _ => none }
def ComposeGroupWrongFalsely : Prop := composeGroupRow.holds Try.pinned (OpenSpec.ofChange composeGroupWrong)

/-- 'parquetlaw10.ComposeKnown': WHATEVER THE INPUT: true; the input reads as it did. -/
def composeKnownSpec : ChangeSpec := { name := "composeKnown", fn := fun _ => fun
  | [] => { results := [.lit (.bool true)], args := [] }
  | _ => none }
def composeKnownRow : OpenClaim := { program := "ytbnoablfajmaeaa", sum := "880fc9aa10799ed7c24e97e8befff2136a9608404855e98e0082eb06fcb8db73", func := "parquet/parquetlaw10.ComposeKnown", spec := "composeKnown", unfollowed := true, recurses := true, named := ["math/bits.divideError", "math/bits.overflowError"], apart := false }
def ComposeKnownSaid : Prop := composeKnownRow.holds Try.pinned (OpenSpec.ofChange composeKnownSpec)

/-- ITS FALSE NEIGHBOUR: 'it returns false'. Refute it at one input. -/
def composeKnownWrong : ChangeSpec := { name := "composeKnown", fn := fun _ => fun
  | [] => { results := [.lit (.bool false)], args := [] }
  | _ => none }
def ComposeKnownWrongFalsely : Prop := composeKnownRow.holds Try.pinned (OpenSpec.ofChange composeKnownWrong)

/-- 'parquetlaw10.ComposeValues': WHATEVER THE INPUT: true; the input reads as it did. -/
def composeValuesSpec : ChangeSpec := { name := "composeValues", fn := fun _ => fun
  | [d1, d2, d3, d4, d5, d6, d7] => { results := [.lit (.bool true)], args := [d1, d2, d3, d4, d5, d6, d7] }
  | _ => none }
def composeValuesRow : OpenClaim := { program := "ytbnoablfajmaeaa", sum := "880fc9aa10799ed7c24e97e8befff2136a9608404855e98e0082eb06fcb8db73", func := "parquet/parquetlaw10.ComposeValues", spec := "composeValues", unfollowed := true, recurses := true, named := ["math/bits.divideError", "math/bits.overflowError"], apart := false }
def ComposeValuesSaid : Prop := composeValuesRow.holds Try.pinned (OpenSpec.ofChange composeValuesSpec)

/-- ITS FALSE NEIGHBOUR: 'it returns false'. Refute it at one input. -/
def composeValuesWrong : ChangeSpec := { name := "composeValues", fn := fun _ => fun
  | [d1, d2, d3, d4, d5, d6, d7] => { results := [.lit (.bool false)], args := [d1, d2, d3, d4, d5, d6, d7] }
  | _ => none }
def ComposeValuesWrongFalsely : Prop := composeValuesRow.holds Try.pinned (OpenSpec.ofChange composeValuesWrong)

/- THE SECOND FORM. 'bulk': how many values and letters a reading holds, each counted each time it is reached (what is shared counts as often as it is met; a slice's spare places count too). A statement '..UptoSaid' is the law's where the arguments, and the package variables that the reading takes, are together of bulk at most 1048576: NARROWER than '..Said'. Prove '..Said' where nothing that the law and all that it calls make is longer than what came in: it says more and counts as full. Else prove '..UptoSaid'. A law counts once. -/
mutual
def uptoBulk {H : Type} : DataW H → Nat
  | .lit (.string bytes) => bytes.length + 1
  | .lit _ => 1
  | .nil => 1
  | .ptr d => uptoBulk d + 1
  | .slice elems spare => uptoBulkAll elems + uptoBulkAll spare + 1
  | .agg parts => uptoBulkAll parts + 1
  | .iface _ d => uptoBulk d + 1
  | .map entries => uptoBulkEntries entries + 1
  | .held _ => 1
def uptoBulkAll {H : Type} : List (DataW H) → Nat
  | [] => 0
  | d :: r => uptoBulk d + uptoBulkAll r
def uptoBulkEntries {H : Type} : List (Lit × DataW H) → Nat
  | [] => 0
  | x :: r => uptoBulkEntry x + uptoBulkEntries r
def uptoBulkEntry {H : Type} : Lit × DataW H → Nat
  | (.string bytes, d) => bytes.length + uptoBulk d + 1
  | (_, d) => uptoBulk d + 1
 end
def uptoSmall : (H : Type) → List (DataW H) → Bool := fun _ ds => decide (uptoBulkAll ds ≤ 1048576)
def OpenSpec.upto (s : _root_.Go.ChangeSpec) : _root_.Go.OpenSpec := { _root_.Go.OpenSpec.ofChange s with cond := some uptoSmall }

/-- 'parquetlaw10.ComposeOnes', WHERE WHAT IT READS IS OF BULK AT MOST 1048576: true; the input reads as it did. -/
def composeOnesUptoRow : OpenClaim := { program := "ytbnoablfajmaeaa", sum := "880fc9aa10799ed7c24e97e8befff2136a9608404855e98e0082eb06fcb8db73", func := "parquet/parquetlaw10.ComposeOnes", spec := "composeOnes", unfollowed := true, recurses := true, named := ["math/bits.divideError", "math/bits.overflowError"], apart := false, narrowed := true }
def ComposeOnesUptoSaid : Prop := composeOnesUptoRow.holds Try.pinned (OpenSpec.upto composeOnesSpec)

/-- 'parquetlaw10.ComposeSums', WHERE WHAT IT READS IS OF BULK AT MOST 1048576: true; the input reads as it did. -/
def composeSumsUptoRow : OpenClaim := { program := "ytbnoablfajmaeaa", sum := "880fc9aa10799ed7c24e97e8befff2136a9608404855e98e0082eb06fcb8db73", func := "parquet/parquetlaw10.ComposeSums", spec := "composeSums", unfollowed := true, recurses := true, named := ["math/bits.divideError", "math/bits.overflowError"], apart := false, narrowed := true }
def ComposeSumsUptoSaid : Prop := composeSumsUptoRow.holds Try.pinned (OpenSpec.upto composeSumsSpec)

/-- 'parquetlaw10.ComposeGroup', WHERE WHAT IT READS IS OF BULK AT MOST 1048576: true; the input reads as it did. -/
def composeGroupUptoRow : OpenClaim := { program := "ytbnoablfajmaeaa", sum := "880fc9aa10799ed7c24e97e8befff2136a9608404855e98e0082eb06fcb8db73", func := "parquet/parquetlaw10.ComposeGroup", spec := "composeGroup", unfollowed := true, recurses := true, named := ["math/bits.divideError", "math/bits.overflowError"], apart := false, narrowed := true }
def ComposeGroupUptoSaid : Prop := composeGroupUptoRow.holds Try.pinned (OpenSpec.upto composeGroupSpec)

/-- 'parquetlaw10.ComposeKnown', WHERE WHAT IT READS IS OF BULK AT MOST 1048576: true; the input reads as it did. -/
def composeKnownUptoRow : OpenClaim := { program := "ytbnoablfajmaeaa", sum := "880fc9aa10799ed7c24e97e8befff2136a9608404855e98e0082eb06fcb8db73", func := "parquet/parquetlaw10.ComposeKnown", spec := "composeKnown", unfollowed := true, recurses := true, named := ["math/bits.divideError", "math/bits.overflowError"], apart := false, narrowed := true }
def ComposeKnownUptoSaid : Prop := composeKnownUptoRow.holds Try.pinned (OpenSpec.upto composeKnownSpec)

/-- 'parquetlaw10.ComposeValues', WHERE WHAT IT READS IS OF BULK AT MOST 1048576: true; the input reads as it did. -/
def composeValuesUptoRow : OpenClaim := { program := "ytbnoablfajmaeaa", sum := "880fc9aa10799ed7c24e97e8befff2136a9608404855e98e0082eb06fcb8db73", func := "parquet/parquetlaw10.ComposeValues", spec := "composeValues", unfollowed := true, recurses := true, named := ["math/bits.divideError", "math/bits.overflowError"], apart := false, narrowed := true }
def ComposeValuesUptoSaid : Prop := composeValuesUptoRow.holds Try.pinned (OpenSpec.upto composeValuesSpec)

end Rows
end Go.Proofs.Ytbnoablfajmaeaa
