/-
  No cell of these rows narrows 'for every input' (looked for: loops, veiled, ifaces, maps, wideKeys, modest, calm, conditions, laid).
  DERIVED. THE GIVEN ROWS OF THIS SEAT. 5 by the template 'for every input the law returns true; each argument reads behind the call as it read before'; 0 by the template 'total and deterministic' (their statements: YteaakcmkpacpaaaTotals.lean).
  GIVEN WITH THE SEED: the statements are not yours to turn. If you find one false, say at which input.
  Laid BY PROGRAM, IN A SANDBOX (cutbox-rows.mjs): the forced cells as the released guide's own fill.sh prints them over the translation 21d491923c49bb31… (all of the seat's roots in one cut). By AI agents, Wed Nov 11 2026. No macro, syntax, notation, axiom, sorry.
-/
import Derived.Test.YteaakcmkpacpaaaChecked
import GoSem.Claim
import GoSem.ClaimJoined
import GoSem.ClaimMapViews
import Derived.JoinedTies
import Derived.KernelRfl
namespace Go.Proofs.Yteaakcmkpacpaaa
/- THE CELL 'sum', in the pinned program and in every row, IS THE sha256 OF THE DUMP (.gsa) THAT YteaakcmkpacpaaaProg.lean LOADS. Nothing in Lean hashes anything: it is a label: what it is worth is what the hold of that sum in a sandbox is worth. -/
noncomputable def Try.pinned : Pinned := { name := "yteaakcmkpacpaaa", sum := "21d491923c49bb3195f700998b68dbcd0af0e22683bfb0101c7e49b2a00f0d13", checked := Try.checked }
namespace Rows
def none {H : Type} : Left H := { results := [], args := [] }

/-- 'parquetlaw13.GenusSigns': WHATEVER THE INPUT: true; the input reads as it did. -/
def genusSignsSpec : ChangeSpec := { name := "genusSigns", fn := fun _ => fun
  | [d] => { results := [.lit (.bool true)], args := [d] }
  | _ => none }
def genusSignsRow : OpenClaim := { program := "yteaakcmkpacpaaa", sum := "21d491923c49bb3195f700998b68dbcd0af0e22683bfb0101c7e49b2a00f0d13", func := "parquet/parquetlaw13.GenusSigns", spec := "genusSigns", unfollowed := true, recurses := true, plainKeys := false, apart := false }
def GenusSignsSaid : Prop := genusSignsRow.holds Try.pinned (OpenSpec.ofChange genusSignsSpec)

/-- ITS FALSE NEIGHBOUR: 'it returns false'. Refute it at one input. -/
def genusSignsWrong : ChangeSpec := { name := "genusSigns", fn := fun _ => fun
  | [d] => { results := [.lit (.bool false)], args := [d] }
  | _ => none }
def GenusSignsWrongFalsely : Prop := genusSignsRow.holds Try.pinned (OpenSpec.ofChange genusSignsWrong)

/-- 'parquetlaw13.GenusLists': WHATEVER THE INPUT: true; the input reads as it did. -/
def genusListsSpec : ChangeSpec := { name := "genusLists", fn := fun _ => fun
  | [d] => { results := [.lit (.bool true)], args := [d] }
  | _ => none }
def genusListsRow : OpenClaim := { program := "yteaakcmkpacpaaa", sum := "21d491923c49bb3195f700998b68dbcd0af0e22683bfb0101c7e49b2a00f0d13", func := "parquet/parquetlaw13.GenusLists", spec := "genusLists", unfollowed := true, recurses := true, plainKeys := false, apart := false }
def GenusListsSaid : Prop := genusListsRow.holds Try.pinned (OpenSpec.ofChange genusListsSpec)

/-- ITS FALSE NEIGHBOUR: 'it returns false'. Refute it at one input. -/
def genusListsWrong : ChangeSpec := { name := "genusLists", fn := fun _ => fun
  | [d] => { results := [.lit (.bool false)], args := [d] }
  | _ => none }
def GenusListsWrongFalsely : Prop := genusListsRow.holds Try.pinned (OpenSpec.ofChange genusListsWrong)

/-- 'parquetlaw13.GenusOne': WHATEVER THE INPUT: true; the input reads as it did. -/
def genusOneSpec : ChangeSpec := { name := "genusOne", fn := fun _ => fun
  | [d] => { results := [.lit (.bool true)], args := [d] }
  | _ => none }
def genusOneRow : OpenClaim := { program := "yteaakcmkpacpaaa", sum := "21d491923c49bb3195f700998b68dbcd0af0e22683bfb0101c7e49b2a00f0d13", func := "parquet/parquetlaw13.GenusOne", spec := "genusOne", unfollowed := true, recurses := true, plainKeys := false, apart := false }
def GenusOneSaid : Prop := genusOneRow.holds Try.pinned (OpenSpec.ofChange genusOneSpec)

/-- ITS FALSE NEIGHBOUR: 'it returns false'. Refute it at one input. -/
def genusOneWrong : ChangeSpec := { name := "genusOne", fn := fun _ => fun
  | [d] => { results := [.lit (.bool false)], args := [d] }
  | _ => none }
def GenusOneWrongFalsely : Prop := genusOneRow.holds Try.pinned (OpenSpec.ofChange genusOneWrong)

/-- 'parquetlaw13.GenusKnown': WHATEVER THE INPUT: true; the input reads as it did. -/
def genusKnownSpec : ChangeSpec := { name := "genusKnown", fn := fun _ => fun
  | [] => { results := [.lit (.bool true)], args := [] }
  | _ => none }
def genusKnownRow : OpenClaim := { program := "yteaakcmkpacpaaa", sum := "21d491923c49bb3195f700998b68dbcd0af0e22683bfb0101c7e49b2a00f0d13", func := "parquet/parquetlaw13.GenusKnown", spec := "genusKnown", unfollowed := true, recurses := true, plainKeys := false, apart := false }
def GenusKnownSaid : Prop := genusKnownRow.holds Try.pinned (OpenSpec.ofChange genusKnownSpec)

/-- ITS FALSE NEIGHBOUR: 'it returns false'. Refute it at one input. -/
def genusKnownWrong : ChangeSpec := { name := "genusKnown", fn := fun _ => fun
  | [] => { results := [.lit (.bool false)], args := [] }
  | _ => none }
def GenusKnownWrongFalsely : Prop := genusKnownRow.holds Try.pinned (OpenSpec.ofChange genusKnownWrong)

/-- 'parquetlaw13.GenusProducts': WHATEVER THE INPUT: true; the input reads as it did. -/
def genusProductsSpec : ChangeSpec := { name := "genusProducts", fn := fun _ => fun
  | [d1, d2] => { results := [.lit (.bool true)], args := [d1, d2] }
  | _ => none }
def genusProductsRow : OpenClaim := { program := "yteaakcmkpacpaaa", sum := "21d491923c49bb3195f700998b68dbcd0af0e22683bfb0101c7e49b2a00f0d13", func := "parquet/parquetlaw13.GenusProducts", spec := "genusProducts", unfollowed := true, recurses := true, named := ["math/bits.divideError", "math/bits.overflowError"], plainKeys := false, apart := false }
def GenusProductsSaid : Prop := genusProductsRow.holds Try.pinned (OpenSpec.ofChange genusProductsSpec)

/-- ITS FALSE NEIGHBOUR: 'it returns false'. Refute it at one input. -/
def genusProductsWrong : ChangeSpec := { name := "genusProducts", fn := fun _ => fun
  | [d1, d2] => { results := [.lit (.bool false)], args := [d1, d2] }
  | _ => none }
def GenusProductsWrongFalsely : Prop := genusProductsRow.holds Try.pinned (OpenSpec.ofChange genusProductsWrong)

/- THE SECOND FORM. 'bulk': how many values and letters a reading holds, each counted each time it is reached (what is shared counts as often as it is met; a slice's spare places count too). A statement '..UptoSaid' is the law's where the arguments, and the package variables that the reading takes, are together of bulk at most 1048576: NARROWER than '..Said'. Prove '..Said' where nothing that the law and all that it calls make is longer than what came in: it says more and counts as full. Else prove '..UptoSaid'. A law counts once. -/
mutual
def uptoBulk {H : Type} : DataW H → Nat
  | .lit (.string bytes) => bytes.length + 1
  | .lit _ => 1
  | .nil => 1
  | .ptr d => uptoBulk d + 1
  | .slice elems spare => uptoBulkAll elems + uptoBulkAll spare + 1
  | .agg parts => uptoBulkAll parts + 1
  | .iface _ d => uptoBulk d + 1
  | .map entries => uptoBulkEntries entries + 1
  | .held _ => 1
def uptoBulkAll {H : Type} : List (DataW H) → Nat
  | [] => 0
  | d :: r => uptoBulk d + uptoBulkAll r
def uptoBulkEntries {H : Type} : List (Lit × DataW H) → Nat
  | [] => 0
  | x :: r => uptoBulkEntry x + uptoBulkEntries r
def uptoBulkEntry {H : Type} : Lit × DataW H → Nat
  | (.string bytes, d) => bytes.length + uptoBulk d + 1
  | (_, d) => uptoBulk d + 1
 end
def uptoSmall : (H : Type) → List (DataW H) → Bool := fun _ ds => decide (uptoBulkAll ds ≤ 1048576)
def OpenSpec.upto (s : _root_.Go.ChangeSpec) : _root_.Go.OpenSpec := { _root_.Go.OpenSpec.ofChange s with cond := some uptoSmall }

/-- 'parquetlaw13.GenusSigns', WHERE WHAT IT READS IS OF BULK AT MOST 1048576: true; the input reads as it did. -/
def genusSignsUptoRow : OpenClaim := { program := "yteaakcmkpacpaaa", sum := "21d491923c49bb3195f700998b68dbcd0af0e22683bfb0101c7e49b2a00f0d13", func := "parquet/parquetlaw13.GenusSigns", spec := "genusSigns", unfollowed := true, recurses := true, plainKeys := false, apart := false, narrowed := true }
def GenusSignsUptoSaid : Prop := genusSignsUptoRow.holds Try.pinned (OpenSpec.upto genusSignsSpec)

/-- 'parquetlaw13.GenusLists', WHERE WHAT IT READS IS OF BULK AT MOST 1048576: true; the input reads as it did. -/
def genusListsUptoRow : OpenClaim := { program := "yteaakcmkpacpaaa", sum := "21d491923c49bb3195f700998b68dbcd0af0e22683bfb0101c7e49b2a00f0d13", func := "parquet/parquetlaw13.GenusLists", spec := "genusLists", unfollowed := true, recurses := true, plainKeys := false, apart := false, narrowed := true }
def GenusListsUptoSaid : Prop := genusListsUptoRow.holds Try.pinned (OpenSpec.upto genusListsSpec)

/-- 'parquetlaw13.GenusOne', WHERE WHAT IT READS IS OF BULK AT MOST 1048576: true; the input reads as it did. -/
def genusOneUptoRow : OpenClaim := { program := "yteaakcmkpacpaaa", sum := "21d491923c49bb3195f700998b68dbcd0af0e22683bfb0101c7e49b2a00f0d13", func := "parquet/parquetlaw13.GenusOne", spec := "genusOne", unfollowed := true, recurses := true, plainKeys := false, apart := false, narrowed := true }
def GenusOneUptoSaid : Prop := genusOneUptoRow.holds Try.pinned (OpenSpec.upto genusOneSpec)

/-- 'parquetlaw13.GenusKnown', WHERE WHAT IT READS IS OF BULK AT MOST 1048576: true; the input reads as it did. -/
def genusKnownUptoRow : OpenClaim := { program := "yteaakcmkpacpaaa", sum := "21d491923c49bb3195f700998b68dbcd0af0e22683bfb0101c7e49b2a00f0d13", func := "parquet/parquetlaw13.GenusKnown", spec := "genusKnown", unfollowed := true, recurses := true, plainKeys := false, apart := false, narrowed := true }
def GenusKnownUptoSaid : Prop := genusKnownUptoRow.holds Try.pinned (OpenSpec.upto genusKnownSpec)

/-- 'parquetlaw13.GenusProducts', WHERE WHAT IT READS IS OF BULK AT MOST 1048576: true; the input reads as it did. -/
def genusProductsUptoRow : OpenClaim := { program := "yteaakcmkpacpaaa", sum := "21d491923c49bb3195f700998b68dbcd0af0e22683bfb0101c7e49b2a00f0d13", func := "parquet/parquetlaw13.GenusProducts", spec := "genusProducts", unfollowed := true, recurses := true, named := ["math/bits.divideError", "math/bits.overflowError"], plainKeys := false, apart := false, narrowed := true }
def GenusProductsUptoSaid : Prop := genusProductsUptoRow.holds Try.pinned (OpenSpec.upto genusProductsSpec)

end Rows
end Go.Proofs.Yteaakcmkpacpaaa
