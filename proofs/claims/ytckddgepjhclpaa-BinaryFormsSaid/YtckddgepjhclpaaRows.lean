/-
  No cell of these rows narrows 'for every input' (looked for: loops, veiled, ifaces, maps, wideKeys, modest, calm, conditions, laid).
  DERIVED. THE GIVEN ROWS OF THIS SEAT. 8 by the template 'for every input the law returns true; each argument reads behind the call as it read before'; 0 by the template 'total and deterministic' (their statements: YtckddgepjhclpaaTotals.lean).
  GIVEN WITH THE SEED: the statements are not yours to turn. If you find one false, say at which input.
  Laid BY PROGRAM, IN A SANDBOX (cutbox-rows.mjs): the forced cells as the released guide's own fill.sh prints them over the translation f72d32e4ea57d452… (all of the seat's roots in one cut). By AI agents, Wed Nov 11 2026. No macro, syntax, notation, axiom, sorry.
-/
import Derived.Test.YtckddgepjhclpaaChecked
import GoSem.Claim
import GoSem.ClaimJoined
import GoSem.ClaimMapViews
import Derived.JoinedTies
import Derived.KernelRfl
namespace Go.Proofs.Ytckddgepjhclpaa
/- THE CELL 'sum', in the pinned program and in every row, IS THE sha256 OF THE DUMP (.gsa) THAT YtckddgepjhclpaaProg.lean LOADS. Nothing in Lean hashes anything: it is a label: what it is worth is what the hold of that sum in a sandbox is worth. -/
noncomputable def Try.pinned : Pinned := { name := "ytckddgepjhclpaa", sum := "f72d32e4ea57d4523cc6e35d99b6773f876a60758d9636b0ac1d81732337cd43", checked := Try.checked }
namespace Rows
def none {H : Type} : Left H := { results := [], args := [] }

/-- 'parquetlaw08.BinaryValues': WHATEVER THE INPUT: true; the input reads as it did. -/
def binaryValuesSpec : ChangeSpec := { name := "binaryValues", fn := fun _ => fun
  | [d1, d2] => { results := [.lit (.bool true)], args := [d1, d2] }
  | _ => none }
def binaryValuesRow : OpenClaim := { program := "ytckddgepjhclpaa", sum := "f72d32e4ea57d4523cc6e35d99b6773f876a60758d9636b0ac1d81732337cd43", func := "parquet/parquetlaw08.BinaryValues", spec := "binaryValues", unfollowed := true, recurses := true, apart := false }
def BinaryValuesSaid : Prop := binaryValuesRow.holds Try.pinned (OpenSpec.ofChange binaryValuesSpec)

/-- ITS FALSE NEIGHBOUR: 'it returns false'. Refute it at one input. -/
def binaryValuesWrong : ChangeSpec := { name := "binaryValues", fn := fun _ => fun
  | [d1, d2] => { results := [.lit (.bool false)], args := [d1, d2] }
  | _ => none }
def BinaryValuesWrongFalsely : Prop := binaryValuesRow.holds Try.pinned (OpenSpec.ofChange binaryValuesWrong)

/-- 'parquetlaw08.BinaryPropers': WHATEVER THE INPUT: true; the input reads as it did. -/
def binaryPropersSpec : ChangeSpec := { name := "binaryPropers", fn := fun _ => fun
  | [d1, d2] => { results := [.lit (.bool true)], args := [d1, d2] }
  | _ => none }
def binaryPropersRow : OpenClaim := { program := "ytckddgepjhclpaa", sum := "f72d32e4ea57d4523cc6e35d99b6773f876a60758d9636b0ac1d81732337cd43", func := "parquet/parquetlaw08.BinaryPropers", spec := "binaryPropers", unfollowed := true, recurses := true, apart := false }
def BinaryPropersSaid : Prop := binaryPropersRow.holds Try.pinned (OpenSpec.ofChange binaryPropersSpec)

/-- ITS FALSE NEIGHBOUR: 'it returns false'. Refute it at one input. -/
def binaryPropersWrong : ChangeSpec := { name := "binaryPropers", fn := fun _ => fun
  | [d1, d2] => { results := [.lit (.bool false)], args := [d1, d2] }
  | _ => none }
def BinaryPropersWrongFalsely : Prop := binaryPropersRow.holds Try.pinned (OpenSpec.ofChange binaryPropersWrong)

/-- 'parquetlaw08.BinaryActs': WHATEVER THE INPUT: true; the input reads as it did. -/
def binaryActsSpec : ChangeSpec := { name := "binaryActs", fn := fun _ => fun
  | [d1, d2] => { results := [.lit (.bool true)], args := [d1, d2] }
  | _ => none }
def binaryActsRow : OpenClaim := { program := "ytckddgepjhclpaa", sum := "f72d32e4ea57d4523cc6e35d99b6773f876a60758d9636b0ac1d81732337cd43", func := "parquet/parquetlaw08.BinaryActs", spec := "binaryActs", unfollowed := true, recurses := true, apart := false }
def BinaryActsSaid : Prop := binaryActsRow.holds Try.pinned (OpenSpec.ofChange binaryActsSpec)

/-- ITS FALSE NEIGHBOUR: 'it returns false'. Refute it at one input. -/
def binaryActsWrong : ChangeSpec := { name := "binaryActs", fn := fun _ => fun
  | [d1, d2] => { results := [.lit (.bool false)], args := [d1, d2] }
  | _ => none }
def BinaryActsWrongFalsely : Prop := binaryActsRow.holds Try.pinned (OpenSpec.ofChange binaryActsWrong)

/-- 'parquetlaw08.BinaryTurns': WHATEVER THE INPUT: true; the input reads as it did. -/
def binaryTurnsSpec : ChangeSpec := { name := "binaryTurns", fn := fun _ => fun
  | [d1, d2, d3, d4, d5] => { results := [.lit (.bool true)], args := [d1, d2, d3, d4, d5] }
  | _ => none }
def binaryTurnsRow : OpenClaim := { program := "ytckddgepjhclpaa", sum := "f72d32e4ea57d4523cc6e35d99b6773f876a60758d9636b0ac1d81732337cd43", func := "parquet/parquetlaw08.BinaryTurns", spec := "binaryTurns", unfollowed := true, recurses := true, apart := false }
def BinaryTurnsSaid : Prop := binaryTurnsRow.holds Try.pinned (OpenSpec.ofChange binaryTurnsSpec)

/-- ITS FALSE NEIGHBOUR: 'it returns false'. Refute it at one input. -/
def binaryTurnsWrong : ChangeSpec := { name := "binaryTurns", fn := fun _ => fun
  | [d1, d2, d3, d4, d5] => { results := [.lit (.bool false)], args := [d1, d2, d3, d4, d5] }
  | _ => none }
def BinaryTurnsWrongFalsely : Prop := binaryTurnsRow.holds Try.pinned (OpenSpec.ofChange binaryTurnsWrong)

/-- 'parquetlaw08.BinaryTells': WHATEVER THE INPUT: true; the input reads as it did. -/
def binaryTellsSpec : ChangeSpec := { name := "binaryTells", fn := fun _ => fun
  | [d1, d2, d3, d4, d5] => { results := [.lit (.bool true)], args := [d1, d2, d3, d4, d5] }
  | _ => none }
def binaryTellsRow : OpenClaim := { program := "ytckddgepjhclpaa", sum := "f72d32e4ea57d4523cc6e35d99b6773f876a60758d9636b0ac1d81732337cd43", func := "parquet/parquetlaw08.BinaryTells", spec := "binaryTells", unfollowed := true, recurses := true, apart := false }
def BinaryTellsSaid : Prop := binaryTellsRow.holds Try.pinned (OpenSpec.ofChange binaryTellsSpec)

/-- ITS FALSE NEIGHBOUR: 'it returns false'. Refute it at one input. -/
def binaryTellsWrong : ChangeSpec := { name := "binaryTells", fn := fun _ => fun
  | [d1, d2, d3, d4, d5] => { results := [.lit (.bool false)], args := [d1, d2, d3, d4, d5] }
  | _ => none }
def BinaryTellsWrongFalsely : Prop := binaryTellsRow.holds Try.pinned (OpenSpec.ofChange binaryTellsWrong)

/-- 'parquetlaw08.BinaryReduces': WHATEVER THE INPUT: true; the input reads as it did. -/
def binaryReducesSpec : ChangeSpec := { name := "binaryReduces", fn := fun _ => fun
  | [d1, d2] => { results := [.lit (.bool true)], args := [d1, d2] }
  | _ => none }
def binaryReducesRow : OpenClaim := { program := "ytckddgepjhclpaa", sum := "f72d32e4ea57d4523cc6e35d99b6773f876a60758d9636b0ac1d81732337cd43", func := "parquet/parquetlaw08.BinaryReduces", spec := "binaryReduces", unfollowed := true, recurses := true, apart := false }
def BinaryReducesSaid : Prop := binaryReducesRow.holds Try.pinned (OpenSpec.ofChange binaryReducesSpec)

/-- ITS FALSE NEIGHBOUR: 'it returns false'. Refute it at one input. -/
def binaryReducesWrong : ChangeSpec := { name := "binaryReduces", fn := fun _ => fun
  | [d1, d2] => { results := [.lit (.bool false)], args := [d1, d2] }
  | _ => none }
def BinaryReducesWrongFalsely : Prop := binaryReducesRow.holds Try.pinned (OpenSpec.ofChange binaryReducesWrong)

/-- 'parquetlaw08.BinaryForms': WHATEVER THE INPUT: true; the input reads as it did. -/
def binaryFormsSpec : ChangeSpec := { name := "binaryForms", fn := fun _ => fun
  | [d] => { results := [.lit (.bool true)], args := [d] }
  | _ => none }
def binaryFormsRow : OpenClaim := { program := "ytckddgepjhclpaa", sum := "f72d32e4ea57d4523cc6e35d99b6773f876a60758d9636b0ac1d81732337cd43", func := "parquet/parquetlaw08.BinaryForms", spec := "binaryForms", unfollowed := true, recurses := true, apart := false }
def BinaryFormsSaid : Prop := binaryFormsRow.holds Try.pinned (OpenSpec.ofChange binaryFormsSpec)

/-- ITS FALSE NEIGHBOUR: 'it returns false'. Refute it at one input. -/
def binaryFormsWrong : ChangeSpec := { name := "binaryForms", fn := fun _ => fun
  | [d] => { results := [.lit (.bool false)], args := [d] }
  | _ => none }
def BinaryFormsWrongFalsely : Prop := binaryFormsRow.holds Try.pinned (OpenSpec.ofChange binaryFormsWrong)

/-- 'parquetlaw08.BinaryKnown': WHATEVER THE INPUT: true; the input reads as it did. -/
def binaryKnownSpec : ChangeSpec := { name := "binaryKnown", fn := fun _ => fun
  | [] => { results := [.lit (.bool true)], args := [] }
  | _ => none }
def binaryKnownRow : OpenClaim := { program := "ytckddgepjhclpaa", sum := "f72d32e4ea57d4523cc6e35d99b6773f876a60758d9636b0ac1d81732337cd43", func := "parquet/parquetlaw08.BinaryKnown", spec := "binaryKnown", unfollowed := true, recurses := true, apart := false }
def BinaryKnownSaid : Prop := binaryKnownRow.holds Try.pinned (OpenSpec.ofChange binaryKnownSpec)

/-- ITS FALSE NEIGHBOUR: 'it returns false'. Refute it at one input. -/
def binaryKnownWrong : ChangeSpec := { name := "binaryKnown", fn := fun _ => fun
  | [] => { results := [.lit (.bool false)], args := [] }
  | _ => none }
def BinaryKnownWrongFalsely : Prop := binaryKnownRow.holds Try.pinned (OpenSpec.ofChange binaryKnownWrong)

/- THE SECOND FORM. 'bulk': how many values and letters a reading holds, each counted each time it is reached (what is shared counts as often as it is met; a slice's spare places count too). A statement '..UptoSaid' is the law's where the arguments, and the package variables that the reading takes, are together of bulk at most 1048576: NARROWER than '..Said'. Prove '..Said' where nothing that the law and all that it calls make is longer than what came in: it says more and counts as full. Else prove '..UptoSaid'. A law counts once. -/
mutual
def uptoBulk {H : Type} : DataW H → Nat
  | .lit (.string bytes) => bytes.length + 1
  | .lit _ => 1
  | .nil => 1
  | .ptr d => uptoBulk d + 1
  | .slice elems spare => uptoBulkAll elems + uptoBulkAll spare + 1
  | .agg parts => uptoBulkAll parts + 1
  | .iface _ d => uptoBulk d + 1
  | .map entries => uptoBulkEntries entries + 1
  | .held _ => 1
def uptoBulkAll {H : Type} : List (DataW H) → Nat
  | [] => 0
  | d :: r => uptoBulk d + uptoBulkAll r
def uptoBulkEntries {H : Type} : List (Lit × DataW H) → Nat
  | [] => 0
  | x :: r => uptoBulkEntry x + uptoBulkEntries r
def uptoBulkEntry {H : Type} : Lit × DataW H → Nat
  | (.string bytes, d) => bytes.length + uptoBulk d + 1
  | (_, d) => uptoBulk d + 1
 end
def uptoSmall : (H : Type) → List (DataW H) → Bool := fun _ ds => decide (uptoBulkAll ds ≤ 1048576)
def OpenSpec.upto (s : _root_.Go.ChangeSpec) : _root_.Go.OpenSpec := { _root_.Go.OpenSpec.ofChange s with cond := some uptoSmall }

/-- 'parquetlaw08.BinaryValues', WHERE WHAT IT READS IS OF BULK AT MOST 1048576: true; the input reads as it did. -/
def binaryValuesUptoRow : OpenClaim := { program := "ytckddgepjhclpaa", sum := "f72d32e4ea57d4523cc6e35d99b6773f876a60758d9636b0ac1d81732337cd43", func := "parquet/parquetlaw08.BinaryValues", spec := "binaryValues", unfollowed := true, recurses := true, apart := false, narrowed := true }
def BinaryValuesUptoSaid : Prop := binaryValuesUptoRow.holds Try.pinned (OpenSpec.upto binaryValuesSpec)

/-- 'parquetlaw08.BinaryPropers', WHERE WHAT IT READS IS OF BULK AT MOST 1048576: true; the input reads as it did. -/
def binaryPropersUptoRow : OpenClaim := { program := "ytckddgepjhclpaa", sum := "f72d32e4ea57d4523cc6e35d99b6773f876a60758d9636b0ac1d81732337cd43", func := "parquet/parquetlaw08.BinaryPropers", spec := "binaryPropers", unfollowed := true, recurses := true, apart := false, narrowed := true }
def BinaryPropersUptoSaid : Prop := binaryPropersUptoRow.holds Try.pinned (OpenSpec.upto binaryPropersSpec)

/-- 'parquetlaw08.BinaryActs', WHERE WHAT IT READS IS OF BULK AT MOST 1048576: true; the input reads as it did. -/
def binaryActsUptoRow : OpenClaim := { program := "ytckddgepjhclpaa", sum := "f72d32e4ea57d4523cc6e35d99b6773f876a60758d9636b0ac1d81732337cd43", func := "parquet/parquetlaw08.BinaryActs", spec := "binaryActs", unfollowed := true, recurses := true, apart := false, narrowed := true }
def BinaryActsUptoSaid : Prop := binaryActsUptoRow.holds Try.pinned (OpenSpec.upto binaryActsSpec)

/-- 'parquetlaw08.BinaryTurns', WHERE WHAT IT READS IS OF BULK AT MOST 1048576: true; the input reads as it did. -/
def binaryTurnsUptoRow : OpenClaim := { program := "ytckddgepjhclpaa", sum := "f72d32e4ea57d4523cc6e35d99b6773f876a60758d9636b0ac1d81732337cd43", func := "parquet/parquetlaw08.BinaryTurns", spec := "binaryTurns", unfollowed := true, recurses := true, apart := false, narrowed := true }
def BinaryTurnsUptoSaid : Prop := binaryTurnsUptoRow.holds Try.pinned (OpenSpec.upto binaryTurnsSpec)

/-- 'parquetlaw08.BinaryTells', WHERE WHAT IT READS IS OF BULK AT MOST 1048576: true; the input reads as it did. -/
def binaryTellsUptoRow : OpenClaim := { program := "ytckddgepjhclpaa", sum := "f72d32e4ea57d4523cc6e35d99b6773f876a60758d9636b0ac1d81732337cd43", func := "parquet/parquetlaw08.BinaryTells", spec := "binaryTells", unfollowed := true, recurses := true, apart := false, narrowed := true }
def BinaryTellsUptoSaid : Prop := binaryTellsUptoRow.holds Try.pinned (OpenSpec.upto binaryTellsSpec)

/-- 'parquetlaw08.BinaryReduces', WHERE WHAT IT READS IS OF BULK AT MOST 1048576: true; the input reads as it did. -/
def binaryReducesUptoRow : OpenClaim := { program := "ytckddgepjhclpaa", sum := "f72d32e4ea57d4523cc6e35d99b6773f876a60758d9636b0ac1d81732337cd43", func := "parquet/parquetlaw08.BinaryReduces", spec := "binaryReduces", unfollowed := true, recurses := true, apart := false, narrowed := true }
def BinaryReducesUptoSaid : Prop := binaryReducesUptoRow.holds Try.pinned (OpenSpec.upto binaryReducesSpec)

/-- 'parquetlaw08.BinaryForms', WHERE WHAT IT READS IS OF BULK AT MOST 1048576: true; the input reads as it did. -/
def binaryFormsUptoRow : OpenClaim := { program := "ytckddgepjhclpaa", sum := "f72d32e4ea57d4523cc6e35d99b6773f876a60758d9636b0ac1d81732337cd43", func := "parquet/parquetlaw08.BinaryForms", spec := "binaryForms", unfollowed := true, recurses := true, apart := false, narrowed := true }
def BinaryFormsUptoSaid : Prop := binaryFormsUptoRow.holds Try.pinned (OpenSpec.upto binaryFormsSpec)

/-- 'parquetlaw08.BinaryKnown', WHERE WHAT IT READS IS OF BULK AT MOST 1048576: true; the input reads as it did. -/
def binaryKnownUptoRow : OpenClaim := { program := "ytckddgepjhclpaa", sum := "f72d32e4ea57d4523cc6e35d99b6773f876a60758d9636b0ac1d81732337cd43", func := "parquet/parquetlaw08.BinaryKnown", spec := "binaryKnown", unfollowed := true, recurses := true, apart := false, narrowed := true }
def BinaryKnownUptoSaid : Prop := binaryKnownUptoRow.holds Try.pinned (OpenSpec.upto binaryKnownSpec)

end Rows
end Go.Proofs.Ytckddgepjhclpaa
