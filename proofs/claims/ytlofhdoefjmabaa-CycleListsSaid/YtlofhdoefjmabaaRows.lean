/-
  No cell of these rows narrows 'for every input' (looked for: loops, veiled, ifaces, maps, wideKeys, modest, calm, conditions, laid).
  DERIVED. THE GIVEN ROWS OF THIS SEAT. 7 by the template 'for every input the law returns true; each argument reads behind the call as it read before'; 0 by the template 'total and deterministic' (their statements: YtlofhdoefjmabaaTotals.lean).
  GIVEN WITH THE SEED: the statements are not yours to turn. If you find one false, say at which input.
  Laid BY PROGRAM, IN A SANDBOX (cutbox-rows.mjs): the forced cells as the released guide's own fill.sh prints them over the translation d19b3e8cf69654c3… (all of the seat's roots in one cut). By AI agents, Wed Nov 11 2026. No macro, syntax, notation, axiom, sorry.
-/
import Derived.Test.YtlofhdoefjmabaaChecked
import GoSem.Claim
import GoSem.ClaimJoined
import GoSem.ClaimMapViews
import Derived.JoinedTies
import Derived.KernelRfl
namespace Go.Proofs.Ytlofhdoefjmabaa
/- THE CELL 'sum', in the pinned program and in every row, IS THE sha256 OF THE DUMP (.gsa) THAT YtlofhdoefjmabaaProg.lean LOADS. Nothing in Lean hashes anything: it is a label: what it is worth is what the hold of that sum in a sandbox is worth. -/
noncomputable def Try.pinned : Pinned := { name := "ytlofhdoefjmabaa", sum := "d19b3e8cf69654c390a9395779f2ce4272a7bb8e7963dbe580ef95ffbd43d3af", checked := Try.checked }
namespace Rows
def none {H : Type} : Left H := { results := [], args := [] }

/-- 'parquetlaw09.CycleRounds': WHATEVER THE INPUT: true; the input reads as it did. -/
def cycleRoundsSpec : ChangeSpec := { name := "cycleRounds", fn := fun _ => fun
  | [d1, d2] => { results := [.lit (.bool true)], args := [d1, d2] }
  | _ => none }
def cycleRoundsRow : OpenClaim := { program := "ytlofhdoefjmabaa", sum := "d19b3e8cf69654c390a9395779f2ce4272a7bb8e7963dbe580ef95ffbd43d3af", func := "parquet/parquetlaw09.CycleRounds", spec := "cycleRounds", plainKeys := false, apart := false }
def CycleRoundsSaid : Prop := cycleRoundsRow.holds Try.pinned (OpenSpec.ofChange cycleRoundsSpec)

/-- ITS FALSE NEIGHBOUR: 'it returns false'. Refute it at one input. -/
def cycleRoundsWrong : ChangeSpec := { name := "cycleRounds", fn := fun _ => fun
  | [d1, d2] => { results := [.lit (.bool false)], args := [d1, d2] }
  | _ => none }
def CycleRoundsWrongFalsely : Prop := cycleRoundsRow.holds Try.pinned (OpenSpec.ofChange cycleRoundsWrong)

/-- 'parquetlaw09.CycleSteps': WHATEVER THE INPUT: true; the input reads as it did. -/
def cycleStepsSpec : ChangeSpec := { name := "cycleSteps", fn := fun _ => fun
  | [d] => { results := [.lit (.bool true)], args := [d] }
  | _ => none }
def cycleStepsRow : OpenClaim := { program := "ytlofhdoefjmabaa", sum := "d19b3e8cf69654c390a9395779f2ce4272a7bb8e7963dbe580ef95ffbd43d3af", func := "parquet/parquetlaw09.CycleSteps", spec := "cycleSteps", plainKeys := false, apart := false }
def CycleStepsSaid : Prop := cycleStepsRow.holds Try.pinned (OpenSpec.ofChange cycleStepsSpec)

/-- ITS FALSE NEIGHBOUR: 'it returns false'. Refute it at one input. -/
def cycleStepsWrong : ChangeSpec := { name := "cycleSteps", fn := fun _ => fun
  | [d] => { results := [.lit (.bool false)], args := [d] }
  | _ => none }
def CycleStepsWrongFalsely : Prop := cycleStepsRow.holds Try.pinned (OpenSpec.ofChange cycleStepsWrong)

/-- 'parquetlaw09.CycleTurns': WHATEVER THE INPUT: true; the input reads as it did. -/
def cycleTurnsSpec : ChangeSpec := { name := "cycleTurns", fn := fun _ => fun
  | [d] => { results := [.lit (.bool true)], args := [d] }
  | _ => none }
def cycleTurnsRow : OpenClaim := { program := "ytlofhdoefjmabaa", sum := "d19b3e8cf69654c390a9395779f2ce4272a7bb8e7963dbe580ef95ffbd43d3af", func := "parquet/parquetlaw09.CycleTurns", spec := "cycleTurns", plainKeys := false, apart := false }
def CycleTurnsSaid : Prop := cycleTurnsRow.holds Try.pinned (OpenSpec.ofChange cycleTurnsSpec)

/-- ITS FALSE NEIGHBOUR: 'it returns false'. Refute it at one input. -/
def cycleTurnsWrong : ChangeSpec := { name := "cycleTurns", fn := fun _ => fun
  | [d] => { results := [.lit (.bool false)], args := [d] }
  | _ => none }
def CycleTurnsWrongFalsely : Prop := cycleTurnsRow.holds Try.pinned (OpenSpec.ofChange cycleTurnsWrong)

/-- 'parquetlaw09.CycleGoes': WHATEVER THE INPUT: true; the input reads as it did. -/
def cycleGoesSpec : ChangeSpec := { name := "cycleGoes", fn := fun _ => fun
  | [d] => { results := [.lit (.bool true)], args := [d] }
  | _ => none }
def cycleGoesRow : OpenClaim := { program := "ytlofhdoefjmabaa", sum := "d19b3e8cf69654c390a9395779f2ce4272a7bb8e7963dbe580ef95ffbd43d3af", func := "parquet/parquetlaw09.CycleGoes", spec := "cycleGoes", plainKeys := false, apart := false }
def CycleGoesSaid : Prop := cycleGoesRow.holds Try.pinned (OpenSpec.ofChange cycleGoesSpec)

/-- ITS FALSE NEIGHBOUR: 'it returns false'. Refute it at one input. -/
def cycleGoesWrong : ChangeSpec := { name := "cycleGoes", fn := fun _ => fun
  | [d] => { results := [.lit (.bool false)], args := [d] }
  | _ => none }
def CycleGoesWrongFalsely : Prop := cycleGoesRow.holds Try.pinned (OpenSpec.ofChange cycleGoesWrong)

/-- 'parquetlaw09.CycleLists': WHATEVER THE INPUT: true; the input reads as it did. -/
def cycleListsSpec : ChangeSpec := { name := "cycleLists", fn := fun _ => fun
  | [d] => { results := [.lit (.bool true)], args := [d] }
  | _ => none }
def cycleListsRow : OpenClaim := { program := "ytlofhdoefjmabaa", sum := "d19b3e8cf69654c390a9395779f2ce4272a7bb8e7963dbe580ef95ffbd43d3af", func := "parquet/parquetlaw09.CycleLists", spec := "cycleLists", unfollowed := true, recurses := true, plainKeys := false, apart := false }
def CycleListsSaid : Prop := cycleListsRow.holds Try.pinned (OpenSpec.ofChange cycleListsSpec)

/-- ITS FALSE NEIGHBOUR: 'it returns false'. Refute it at one input. -/
def cycleListsWrong : ChangeSpec := { name := "cycleLists", fn := fun _ => fun
  | [d] => { results := [.lit (.bool false)], args := [d] }
  | _ => none }
def CycleListsWrongFalsely : Prop := cycleListsRow.holds Try.pinned (OpenSpec.ofChange cycleListsWrong)

/-- 'parquetlaw09.CycleKnown': WHATEVER THE INPUT: true; the input reads as it did. -/
def cycleKnownSpec : ChangeSpec := { name := "cycleKnown", fn := fun _ => fun
  | [] => { results := [.lit (.bool true)], args := [] }
  | _ => none }
def cycleKnownRow : OpenClaim := { program := "ytlofhdoefjmabaa", sum := "d19b3e8cf69654c390a9395779f2ce4272a7bb8e7963dbe580ef95ffbd43d3af", func := "parquet/parquetlaw09.CycleKnown", spec := "cycleKnown", unfollowed := true, recurses := true, plainKeys := false, apart := false }
def CycleKnownSaid : Prop := cycleKnownRow.holds Try.pinned (OpenSpec.ofChange cycleKnownSpec)

/-- ITS FALSE NEIGHBOUR: 'it returns false'. Refute it at one input. -/
def cycleKnownWrong : ChangeSpec := { name := "cycleKnown", fn := fun _ => fun
  | [] => { results := [.lit (.bool false)], args := [] }
  | _ => none }
def CycleKnownWrongFalsely : Prop := cycleKnownRow.holds Try.pinned (OpenSpec.ofChange cycleKnownWrong)

/-- 'parquetlaw09.CyclePlaces': WHATEVER THE INPUT: true; the input reads as it did. -/
def cyclePlacesSpec : ChangeSpec := { name := "cyclePlaces", fn := fun _ => fun
  | [d1, d2] => { results := [.lit (.bool true)], args := [d1, d2] }
  | _ => none }
def cyclePlacesRow : OpenClaim := { program := "ytlofhdoefjmabaa", sum := "d19b3e8cf69654c390a9395779f2ce4272a7bb8e7963dbe580ef95ffbd43d3af", func := "parquet/parquetlaw09.CyclePlaces", spec := "cyclePlaces", unfollowed := true, recurses := true, plainKeys := false, apart := false }
def CyclePlacesSaid : Prop := cyclePlacesRow.holds Try.pinned (OpenSpec.ofChange cyclePlacesSpec)

/-- ITS FALSE NEIGHBOUR: 'it returns false'. Refute it at one input. -/
def cyclePlacesWrong : ChangeSpec := { name := "cyclePlaces", fn := fun _ => fun
  | [d1, d2] => { results := [.lit (.bool false)], args := [d1, d2] }
  | _ => none }
def CyclePlacesWrongFalsely : Prop := cyclePlacesRow.holds Try.pinned (OpenSpec.ofChange cyclePlacesWrong)

/- THE SECOND FORM. 'bulk': how many values and letters a reading holds, each counted each time it is reached (what is shared counts as often as it is met; a slice's spare places count too). A statement '..UptoSaid' is the law's where the arguments, and the package variables that the reading takes, are together of bulk at most 1048576: NARROWER than '..Said'. Prove '..Said' where nothing that the law and all that it calls make is longer than what came in: it says more and counts as full. Else prove '..UptoSaid'. A law counts once. -/
mutual
def uptoBulk {H : Type} : DataW H → Nat
  | .lit (.string bytes) => bytes.length + 1
  | .lit _ => 1
  | .nil => 1
  | .ptr d => uptoBulk d + 1
  | .slice elems spare => uptoBulkAll elems + uptoBulkAll spare + 1
  | .agg parts => uptoBulkAll parts + 1
  | .iface _ d => uptoBulk d + 1
  | .map entries => uptoBulkEntries entries + 1
  | .held _ => 1
def uptoBulkAll {H : Type} : List (DataW H) → Nat
  | [] => 0
  | d :: r => uptoBulk d + uptoBulkAll r
def uptoBulkEntries {H : Type} : List (Lit × DataW H) → Nat
  | [] => 0
  | x :: r => uptoBulkEntry x + uptoBulkEntries r
def uptoBulkEntry {H : Type} : Lit × DataW H → Nat
  | (.string bytes, d) => bytes.length + uptoBulk d + 1
  | (_, d) => uptoBulk d + 1
 end
def uptoSmall : (H : Type) → List (DataW H) → Bool := fun _ ds => decide (uptoBulkAll ds ≤ 1048576)
def OpenSpec.upto (s : _root_.Go.ChangeSpec) : _root_.Go.OpenSpec := { _root_.Go.OpenSpec.ofChange s with cond := some uptoSmall }

/-- 'parquetlaw09.CycleRounds', WHERE WHAT IT READS IS OF BULK AT MOST 1048576: true; the input reads as it did. -/
def cycleRoundsUptoRow : OpenClaim := { program := "ytlofhdoefjmabaa", sum := "d19b3e8cf69654c390a9395779f2ce4272a7bb8e7963dbe580ef95ffbd43d3af", func := "parquet/parquetlaw09.CycleRounds", spec := "cycleRounds", plainKeys := false, apart := false, narrowed := true }
def CycleRoundsUptoSaid : Prop := cycleRoundsUptoRow.holds Try.pinned (OpenSpec.upto cycleRoundsSpec)

/-- 'parquetlaw09.CycleSteps', WHERE WHAT IT READS IS OF BULK AT MOST 1048576: true; the input reads as it did. -/
def cycleStepsUptoRow : OpenClaim := { program := "ytlofhdoefjmabaa", sum := "d19b3e8cf69654c390a9395779f2ce4272a7bb8e7963dbe580ef95ffbd43d3af", func := "parquet/parquetlaw09.CycleSteps", spec := "cycleSteps", plainKeys := false, apart := false, narrowed := true }
def CycleStepsUptoSaid : Prop := cycleStepsUptoRow.holds Try.pinned (OpenSpec.upto cycleStepsSpec)

/-- 'parquetlaw09.CycleTurns', WHERE WHAT IT READS IS OF BULK AT MOST 1048576: true; the input reads as it did. -/
def cycleTurnsUptoRow : OpenClaim := { program := "ytlofhdoefjmabaa", sum := "d19b3e8cf69654c390a9395779f2ce4272a7bb8e7963dbe580ef95ffbd43d3af", func := "parquet/parquetlaw09.CycleTurns", spec := "cycleTurns", plainKeys := false, apart := false, narrowed := true }
def CycleTurnsUptoSaid : Prop := cycleTurnsUptoRow.holds Try.pinned (OpenSpec.upto cycleTurnsSpec)

/-- 'parquetlaw09.CycleGoes', WHERE WHAT IT READS IS OF BULK AT MOST 1048576: true; the input reads as it did. -/
def cycleGoesUptoRow : OpenClaim := { program := "ytlofhdoefjmabaa", sum := "d19b3e8cf69654c390a9395779f2ce4272a7bb8e7963dbe580ef95ffbd43d3af", func := "parquet/parquetlaw09.CycleGoes", spec := "cycleGoes", plainKeys := false, apart := false, narrowed := true }
def CycleGoesUptoSaid : Prop := cycleGoesUptoRow.holds Try.pinned (OpenSpec.upto cycleGoesSpec)

/-- 'parquetlaw09.CycleLists', WHERE WHAT IT READS IS OF BULK AT MOST 1048576: true; the input reads as it did. -/
def cycleListsUptoRow : OpenClaim := { program := "ytlofhdoefjmabaa", sum := "d19b3e8cf69654c390a9395779f2ce4272a7bb8e7963dbe580ef95ffbd43d3af", func := "parquet/parquetlaw09.CycleLists", spec := "cycleLists", unfollowed := true, recurses := true, plainKeys := false, apart := false, narrowed := true }
def CycleListsUptoSaid : Prop := cycleListsUptoRow.holds Try.pinned (OpenSpec.upto cycleListsSpec)

/-- 'parquetlaw09.CycleKnown', WHERE WHAT IT READS IS OF BULK AT MOST 1048576: true; the input reads as it did. -/
def cycleKnownUptoRow : OpenClaim := { program := "ytlofhdoefjmabaa", sum := "d19b3e8cf69654c390a9395779f2ce4272a7bb8e7963dbe580ef95ffbd43d3af", func := "parquet/parquetlaw09.CycleKnown", spec := "cycleKnown", unfollowed := true, recurses := true, plainKeys := false, apart := false, narrowed := true }
def CycleKnownUptoSaid : Prop := cycleKnownUptoRow.holds Try.pinned (OpenSpec.upto cycleKnownSpec)

/-- 'parquetlaw09.CyclePlaces', WHERE WHAT IT READS IS OF BULK AT MOST 1048576: true; the input reads as it did. -/
def cyclePlacesUptoRow : OpenClaim := { program := "ytlofhdoefjmabaa", sum := "d19b3e8cf69654c390a9395779f2ce4272a7bb8e7963dbe580ef95ffbd43d3af", func := "parquet/parquetlaw09.CyclePlaces", spec := "cyclePlaces", unfollowed := true, recurses := true, plainKeys := false, apart := false, narrowed := true }
def CyclePlacesUptoSaid : Prop := cyclePlacesUptoRow.holds Try.pinned (OpenSpec.upto cyclePlacesSpec)

end Rows
end Go.Proofs.Ytlofhdoefjmabaa
