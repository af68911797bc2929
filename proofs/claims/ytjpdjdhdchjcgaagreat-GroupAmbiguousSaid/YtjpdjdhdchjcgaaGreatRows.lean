/-
  No cell of these rows narrows 'for every input' (looked for: loops, veiled, ifaces, maps, wideKeys, modest, calm, conditions, laid).
  DERIVED. THE GIVEN ROWS OF THIS SEAT. 7 by the template 'for every input the law returns true; each argument reads behind the call as it read before'; 0 by the template 'total and deterministic' (their statements: YtjpdjdhdchjcgaaGreatTotals.lean).
  GIVEN WITH THE SEED: the statements are not yours to turn. If you find one false, say at which input.
  Laid BY PROGRAM, IN A SANDBOX (cutbox-rows.mjs): the forced cells as the released guide's own fill.sh prints them over the translation 5c36e2abd62aca5f… (all of the seat's roots in one cut). By AI agents, Wed Nov 11 2026. No macro, syntax, notation, axiom, sorry.
-/
import Derived.Test.YtjpdjdhdchjcgaaGreatChecked
import GoSem.Claim
import GoSem.ClaimJoined
import GoSem.ClaimMapViews
import Derived.JoinedTies
import Derived.KernelRfl
namespace Go.Proofs.YtjpdjdhdchjcgaaGreat
/- THE CELL 'sum', in the pinned program and in every row, IS THE sha256 OF THE DUMP (.gsa) THAT YtjpdjdhdchjcgaaGreatProg.lean LOADS. Nothing in Lean hashes anything: it is a label: what it is worth is what the hold of that sum in a sandbox is worth. -/
noncomputable def Tryz.pinned : Pinned := { name := "ytjpdjdhdchjcgaagreat", sum := "5c36e2abd62aca5f87f57b989c32fd868f29a4dbc18e30518b7b2f18e7159293", checked := Tryz.checked }
namespace Rows
def none {H : Type} : Left H := { results := [], args := [] }

/-- 'parquetlaw12.GroupOrders': WHATEVER THE INPUT: true; the input reads as it did. -/
def groupOrdersSpec : ChangeSpec := { name := "groupOrders", fn := fun _ => fun
  | [d] => { results := [.lit (.bool true)], args := [d] }
  | _ => none }
def groupOrdersRow : OpenClaim := { program := "ytjpdjdhdchjcgaagreat", sum := "5c36e2abd62aca5f87f57b989c32fd868f29a4dbc18e30518b7b2f18e7159293", func := "parquet/parquetlaw12.GroupOrders", spec := "groupOrders", unfollowed := true, recurses := true, named := ["math/bits.divideError", "math/bits.overflowError"], plainKeys := false, apart := false }
def GroupOrdersSaid : Prop := groupOrdersRow.holds Tryz.pinned (OpenSpec.ofChange groupOrdersSpec)

/-- ITS FALSE NEIGHBOUR: 'it returns false'. Refute it at one input. -/
def groupOrdersWrong : ChangeSpec := { name := "groupOrders", fn := fun _ => fun
  | [d] => { results := [.lit (.bool false)], args := [d] }
  | _ => none }
def GroupOrdersWrongFalsely : Prop := groupOrdersRow.holds Tryz.pinned (OpenSpec.ofChange groupOrdersWrong)

/-- 'parquetlaw12.GroupClasses': WHATEVER THE INPUT: true; the input reads as it did. -/
def groupClassesSpec : ChangeSpec := { name := "groupClasses", fn := fun _ => fun
  | [d] => { results := [.lit (.bool true)], args := [d] }
  | _ => none }
def groupClassesRow : OpenClaim := { program := "ytjpdjdhdchjcgaagreat", sum := "5c36e2abd62aca5f87f57b989c32fd868f29a4dbc18e30518b7b2f18e7159293", func := "parquet/parquetlaw12.GroupClasses", spec := "groupClasses", unfollowed := true, recurses := true, named := ["math/bits.divideError", "math/bits.overflowError"], plainKeys := false, apart := false }
def GroupClassesSaid : Prop := groupClassesRow.holds Tryz.pinned (OpenSpec.ofChange groupClassesSpec)

/-- ITS FALSE NEIGHBOUR: 'it returns false'. Refute it at one input. -/
def groupClassesWrong : ChangeSpec := { name := "groupClasses", fn := fun _ => fun
  | [d] => { results := [.lit (.bool false)], args := [d] }
  | _ => none }
def GroupClassesWrongFalsely : Prop := groupClassesRow.holds Tryz.pinned (OpenSpec.ofChange groupClassesWrong)

/-- 'parquetlaw12.GroupAll': WHATEVER THE INPUT: true; the input reads as it did. -/
def groupAllSpec : ChangeSpec := { name := "groupAll", fn := fun _ => fun
  | [d] => { results := [.lit (.bool true)], args := [d] }
  | _ => none }
def groupAllRow : OpenClaim := { program := "ytjpdjdhdchjcgaagreat", sum := "5c36e2abd62aca5f87f57b989c32fd868f29a4dbc18e30518b7b2f18e7159293", func := "parquet/parquetlaw12.GroupAll", spec := "groupAll", unfollowed := true, recurses := true, named := ["math/bits.divideError", "math/bits.overflowError"], plainKeys := false, apart := false }
def GroupAllSaid : Prop := groupAllRow.holds Tryz.pinned (OpenSpec.ofChange groupAllSpec)

/-- ITS FALSE NEIGHBOUR: 'it returns false'. Refute it at one input. -/
def groupAllWrong : ChangeSpec := { name := "groupAll", fn := fun _ => fun
  | [d] => { results := [.lit (.bool false)], args := [d] }
  | _ => none }
def GroupAllWrongFalsely : Prop := groupAllRow.holds Tryz.pinned (OpenSpec.ofChange groupAllWrong)

/-- 'parquetlaw12.GroupAmbiguous': WHATEVER THE INPUT: true; the input reads as it did. -/
def groupAmbiguousSpec : ChangeSpec := { name := "groupAmbiguous", fn := fun _ => fun
  | [d] => { results := [.lit (.bool true)], args := [d] }
  | _ => none }
def groupAmbiguousRow : OpenClaim := { program := "ytjpdjdhdchjcgaagreat", sum := "5c36e2abd62aca5f87f57b989c32fd868f29a4dbc18e30518b7b2f18e7159293", func := "parquet/parquetlaw12.GroupAmbiguous", spec := "groupAmbiguous", unfollowed := true, recurses := true, named := ["math/bits.divideError", "math/bits.overflowError"], plainKeys := false, apart := false }
def GroupAmbiguousSaid : Prop := groupAmbiguousRow.holds Tryz.pinned (OpenSpec.ofChange groupAmbiguousSpec)

/-- ITS FALSE NEIGHBOUR: 'it returns false'. Refute it at one input. -/
def groupAmbiguousWrong : ChangeSpec := { name := "groupAmbiguous", fn := fun _ => fun
  | [d] => { results := [.lit (.bool false)], args := [d] }
  | _ => none }
def GroupAmbiguousWrongFalsely : Prop := groupAmbiguousRow.holds Tryz.pinned (OpenSpec.ofChange groupAmbiguousWrong)

/-- 'parquetlaw12.GroupSigns': WHATEVER THE INPUT: true; the input reads as it did. -/
def groupSignsSpec : ChangeSpec := { name := "groupSigns", fn := fun _ => fun
  | [d] => { results := [.lit (.bool true)], args := [d] }
  | _ => none }
def groupSignsRow : OpenClaim := { program := "ytjpdjdhdchjcgaagreat", sum := "5c36e2abd62aca5f87f57b989c32fd868f29a4dbc18e30518b7b2f18e7159293", func := "parquet/parquetlaw12.GroupSigns", spec := "groupSigns", unfollowed := true, recurses := true, named := ["math/bits.divideError", "math/bits.overflowError"], plainKeys := false, apart := false }
def GroupSignsSaid : Prop := groupSignsRow.holds Tryz.pinned (OpenSpec.ofChange groupSignsSpec)

/-- ITS FALSE NEIGHBOUR: 'it returns false'. Refute it at one input. -/
def groupSignsWrong : ChangeSpec := { name := "groupSigns", fn := fun _ => fun
  | [d] => { results := [.lit (.bool false)], args := [d] }
  | _ => none }
def GroupSignsWrongFalsely : Prop := groupSignsRow.holds Tryz.pinned (OpenSpec.ofChange groupSignsWrong)

/-- 'parquetlaw12.GroupExponents': WHATEVER THE INPUT: true; the input reads as it did. -/
def groupExponentsSpec : ChangeSpec := { name := "groupExponents", fn := fun _ => fun
  | [d1, d2, d3] => { results := [.lit (.bool true)], args := [d1, d2, d3] }
  | _ => none }
def groupExponentsRow : OpenClaim := { program := "ytjpdjdhdchjcgaagreat", sum := "5c36e2abd62aca5f87f57b989c32fd868f29a4dbc18e30518b7b2f18e7159293", func := "parquet/parquetlaw12.GroupExponents", spec := "groupExponents", unfollowed := true, recurses := true, named := ["math/bits.divideError", "math/bits.overflowError"], plainKeys := false, apart := false }
def GroupExponentsSaid : Prop := groupExponentsRow.holds Tryz.pinned (OpenSpec.ofChange groupExponentsSpec)

/-- ITS FALSE NEIGHBOUR: 'it returns false'. Refute it at one input. -/
def groupExponentsWrong : ChangeSpec := { name := "groupExponents", fn := fun _ => fun
  | [d1, d2, d3] => { results := [.lit (.bool false)], args := [d1, d2, d3] }
  | _ => none }
def GroupExponentsWrongFalsely : Prop := groupExponentsRow.holds Tryz.pinned (OpenSpec.ofChange groupExponentsWrong)

/-- 'parquetlaw12.GroupKnown': WHATEVER THE INPUT: true; the input reads as it did. -/
def groupKnownSpec : ChangeSpec := { name := "groupKnown", fn := fun _ => fun
  | [] => { results := [.lit (.bool true)], args := [] }
  | _ => none }
def groupKnownRow : OpenClaim := { program := "ytjpdjdhdchjcgaagreat", sum := "5c36e2abd62aca5f87f57b989c32fd868f29a4dbc18e30518b7b2f18e7159293", func := "parquet/parquetlaw12.GroupKnown", spec := "groupKnown", unfollowed := true, recurses := true, named := ["math/bits.divideError", "math/bits.overflowError"], plainKeys := false, apart := false }
def GroupKnownSaid : Prop := groupKnownRow.holds Tryz.pinned (OpenSpec.ofChange groupKnownSpec)

/-- ITS FALSE NEIGHBOUR: 'it returns false'. Refute it at one input. -/
def groupKnownWrong : ChangeSpec := { name := "groupKnown", fn := fun _ => fun
  | [] => { results := [.lit (.bool false)], args := [] }
  | _ => none }
def GroupKnownWrongFalsely : Prop := groupKnownRow.holds Tryz.pinned (OpenSpec.ofChange groupKnownWrong)

/- THE SECOND FORM. 'bulk': how many values and letters a reading holds, each counted each time it is reached (what is shared counts as often as it is met; a slice's spare places count too). A statement '..UptoSaid' is the law's where the arguments, and the package variables that the reading takes, are together of bulk at most 1048576: NARROWER than '..Said'. Prove '..Said' where nothing that the law and all that it calls make is longer than what came in: it says more and counts as full. Else prove '..UptoSaid'. A law counts once. -/
mutual
def uptoBulk {H : Type} : DataW H → Nat
  | .lit (.string bytes) => bytes.length + 1
  | .lit _ => 1
  | .nil => 1
  | .ptr d => uptoBulk d + 1
  | .slice elems spare => uptoBulkAll elems + uptoBulkAll spare + 1
  | .agg parts => uptoBulkAll parts + 1
  | .iface _ d => uptoBulk d + 1
  | .map entries => uptoBulkEntries entries + 1
  | .held _ => 1
def uptoBulkAll {H : Type} : List (DataW H) → Nat
  | [] => 0
  | d :: r => uptoBulk d + uptoBulkAll r
def uptoBulkEntries {H : Type} : List (Lit × DataW H) → Nat
  | [] => 0
  | x :: r => uptoBulkEntry x + uptoBulkEntries r
def uptoBulkEntry {H : Type} : Lit × DataW H → Nat
  | (.string bytes, d) => bytes.length + uptoBulk d + 1
  | (_, d) => uptoBulk d + 1
 end
def uptoSmall : (H : Type) → List (DataW H) → Bool := fun _ ds => decide (uptoBulkAll ds ≤ 1048576)
def OpenSpec.upto (s : _root_.Go.ChangeSpec) : _root_.Go.OpenSpec := { _root_.Go.OpenSpec.ofChange s with cond := some uptoSmall }

/-- 'parquetlaw12.GroupOrders', WHERE WHAT IT READS IS OF BULK AT MOST 1048576: true; the input reads as it did. -/
def groupOrdersUptoRow : OpenClaim := { program := "ytjpdjdhdchjcgaagreat", sum := "5c36e2abd62aca5f87f57b989c32fd868f29a4dbc18e30518b7b2f18e7159293", func := "parquet/parquetlaw12.GroupOrders", spec := "groupOrders", unfollowed := true, recurses := true, named := ["math/bits.divideError", "math/bits.overflowError"], plainKeys := false, apart := false, narrowed := true }
def GroupOrdersUptoSaid : Prop := groupOrdersUptoRow.holds Tryz.pinned (OpenSpec.upto groupOrdersSpec)

/-- 'parquetlaw12.GroupClasses', WHERE WHAT IT READS IS OF BULK AT MOST 1048576: true; the input reads as it did. -/
def groupClassesUptoRow : OpenClaim := { program := "ytjpdjdhdchjcgaagreat", sum := "5c36e2abd62aca5f87f57b989c32fd868f29a4dbc18e30518b7b2f18e7159293", func := "parquet/parquetlaw12.GroupClasses", spec := "groupClasses", unfollowed := true, recurses := true, named := ["math/bits.divideError", "math/bits.overflowError"], plainKeys := false, apart := false, narrowed := true }
def GroupClassesUptoSaid : Prop := groupClassesUptoRow.holds Tryz.pinned (OpenSpec.upto groupClassesSpec)

/-- 'parquetlaw12.GroupAll', WHERE WHAT IT READS IS OF BULK AT MOST 1048576: true; the input reads as it did. -/
def groupAllUptoRow : OpenClaim := { program := "ytjpdjdhdchjcgaagreat", sum := "5c36e2abd62aca5f87f57b989c32fd868f29a4dbc18e30518b7b2f18e7159293", func := "parquet/parquetlaw12.GroupAll", spec := "groupAll", unfollowed := true, recurses := true, named := ["math/bits.divideError", "math/bits.overflowError"], plainKeys := false, apart := false, narrowed := true }
def GroupAllUptoSaid : Prop := groupAllUptoRow.holds Tryz.pinned (OpenSpec.upto groupAllSpec)

/-- 'parquetlaw12.GroupAmbiguous', WHERE WHAT IT READS IS OF BULK AT MOST 1048576: true; the input reads as it did. -/
def groupAmbiguousUptoRow : OpenClaim := { program := "ytjpdjdhdchjcgaagreat", sum := "5c36e2abd62aca5f87f57b989c32fd868f29a4dbc18e30518b7b2f18e7159293", func := "parquet/parquetlaw12.GroupAmbiguous", spec := "groupAmbiguous", unfollowed := true, recurses := true, named := ["math/bits.divideError", "math/bits.overflowError"], plainKeys := false, apart := false, narrowed := true }
def GroupAmbiguousUptoSaid : Prop := groupAmbiguousUptoRow.holds Tryz.pinned (OpenSpec.upto groupAmbiguousSpec)

/-- 'parquetlaw12.GroupSigns', WHERE WHAT IT READS IS OF BULK AT MOST 1048576: true; the input reads as it did. -/
def groupSignsUptoRow : OpenClaim := { program := "ytjpdjdhdchjcgaagreat", sum := "5c36e2abd62aca5f87f57b989c32fd868f29a4dbc18e30518b7b2f18e7159293", func := "parquet/parquetlaw12.GroupSigns", spec := "groupSigns", unfollowed := true, recurses := true, named := ["math/bits.divideError", "math/bits.overflowError"], plainKeys := false, apart := false, narrowed := true }
def GroupSignsUptoSaid : Prop := groupSignsUptoRow.holds Tryz.pinned (OpenSpec.upto groupSignsSpec)

/-- 'parquetlaw12.GroupExponents', WHERE WHAT IT READS IS OF BULK AT MOST 1048576: true; the input reads as it did. -/
def groupExponentsUptoRow : OpenClaim := { program := "ytjpdjdhdchjcgaagreat", sum := "5c36e2abd62aca5f87f57b989c32fd868f29a4dbc18e30518b7b2f18e7159293", func := "parquet/parquetlaw12.GroupExponents", spec := "groupExponents", unfollowed := true, recurses := true, named := ["math/bits.divideError", "math/bits.overflowError"], plainKeys := false, apart := false, narrowed := true }
def GroupExponentsUptoSaid : Prop := groupExponentsUptoRow.holds Tryz.pinned (OpenSpec.upto groupExponentsSpec)

/-- 'parquetlaw12.GroupKnown', WHERE WHAT IT READS IS OF BULK AT MOST 1048576: true; the input reads as it did. -/
def groupKnownUptoRow : OpenClaim := { program := "ytjpdjdhdchjcgaagreat", sum := "5c36e2abd62aca5f87f57b989c32fd868f29a4dbc18e30518b7b2f18e7159293", func := "parquet/parquetlaw12.GroupKnown", spec := "groupKnown", unfollowed := true, recurses := true, named := ["math/bits.divideError", "math/bits.overflowError"], plainKeys := false, apart := false, narrowed := true }
def GroupKnownUptoSaid : Prop := groupKnownUptoRow.holds Tryz.pinned (OpenSpec.upto groupKnownSpec)

end Rows
end Go.Proofs.YtjpdjdhdchjcgaaGreat
