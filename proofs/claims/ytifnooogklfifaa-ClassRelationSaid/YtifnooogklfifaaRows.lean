/-
  No cell of these rows narrows 'for every input' (looked for: loops, veiled, ifaces, maps, wideKeys, modest, calm, conditions, laid).
  DERIVED. THE GIVEN ROWS OF THIS SEAT. 6 by the template 'for every input the law returns true; each argument reads behind the call as it read before'; 0 by the template 'total and deterministic' (their statements: YtifnooogklfifaaTotals.lean).
  GIVEN WITH THE SEED: the statements are not yours to turn. If you find one false, say at which input.
  Laid BY PROGRAM, IN A SANDBOX (cutbox-rows.mjs): the forced cells as the released guide's own fill.sh prints them over the translation cbd1363c45c6fc6a… (all of the seat's roots in one cut). By AI agents, Wed Nov 11 2026. No macro, syntax, notation, axiom, sorry.
-/
import Derived.Test.YtifnooogklfifaaChecked
import GoSem.Claim
import GoSem.ClaimJoined
import GoSem.ClaimMapViews
import Derived.JoinedTies
import Derived.KernelRfl
namespace Go.Proofs.Ytifnooogklfifaa
/- THE CELL 'sum', in the pinned program and in every row, IS THE sha256 OF THE DUMP (.gsa) THAT YtifnooogklfifaaProg.lean LOADS. Nothing in Lean hashes anything: it is a label: what it is worth is what the hold of that sum in a sandbox is worth. -/
noncomputable def Try.pinned : Pinned := { name := "ytifnooogklfifaa", sum := "cbd1363c45c6fc6a6944271cf1fa10b4ba3d810d958b88ca4b515fb846690893", checked := Try.checked }
namespace Rows
def none {H : Type} : Left H := { results := [], args := [] }

/-- 'parquetlaw11.ClassLists': WHATEVER THE INPUT: true; the input reads as it did. -/
def classListsSpec : ChangeSpec := { name := "classLists", fn := fun _ => fun
  | [d] => { results := [.lit (.bool true)], args := [d] }
  | _ => none }
def classListsRow : OpenClaim := { program := "ytifnooogklfifaa", sum := "cbd1363c45c6fc6a6944271cf1fa10b4ba3d810d958b88ca4b515fb846690893", func := "parquet/parquetlaw11.ClassLists", spec := "classLists", unfollowed := true, recurses := true, plainKeys := false, apart := false }
def ClassListsSaid : Prop := classListsRow.holds Try.pinned (OpenSpec.ofChange classListsSpec)

/-- ITS FALSE NEIGHBOUR: 'it returns false'. Refute it at one input. -/
def classListsWrong : ChangeSpec := { name := "classLists", fn := fun _ => fun
  | [d] => { results := [.lit (.bool false)], args := [d] }
  | _ => none }
def ClassListsWrongFalsely : Prop := classListsRow.holds Try.pinned (OpenSpec.ofChange classListsWrong)

/-- 'parquetlaw11.ClassWeighs': WHATEVER THE INPUT: true; the input reads as it did. -/
def classWeighsSpec : ChangeSpec := { name := "classWeighs", fn := fun _ => fun
  | [d] => { results := [.lit (.bool true)], args := [d] }
  | _ => none }
def classWeighsRow : OpenClaim := { program := "ytifnooogklfifaa", sum := "cbd1363c45c6fc6a6944271cf1fa10b4ba3d810d958b88ca4b515fb846690893", func := "parquet/parquetlaw11.ClassWeighs", spec := "classWeighs", unfollowed := true, recurses := true, plainKeys := false, apart := false }
def ClassWeighsSaid : Prop := classWeighsRow.holds Try.pinned (OpenSpec.ofChange classWeighsSpec)

/-- ITS FALSE NEIGHBOUR: 'it returns false'. Refute it at one input. -/
def classWeighsWrong : ChangeSpec := { name := "classWeighs", fn := fun _ => fun
  | [d] => { results := [.lit (.bool false)], args := [d] }
  | _ => none }
def ClassWeighsWrongFalsely : Prop := classWeighsRow.holds Try.pinned (OpenSpec.ofChange classWeighsWrong)

/-- 'parquetlaw11.ClassRelation': WHATEVER THE INPUT: true; the input reads as it did. -/
def classRelationSpec : ChangeSpec := { name := "classRelation", fn := fun _ => fun
  | [d] => { results := [.lit (.bool true)], args := [d] }
  | _ => none }
def classRelationRow : OpenClaim := { program := "ytifnooogklfifaa", sum := "cbd1363c45c6fc6a6944271cf1fa10b4ba3d810d958b88ca4b515fb846690893", func := "parquet/parquetlaw11.ClassRelation", spec := "classRelation", unfollowed := true, recurses := true, plainKeys := false, apart := false }
def ClassRelationSaid : Prop := classRelationRow.holds Try.pinned (OpenSpec.ofChange classRelationSpec)

/-- ITS FALSE NEIGHBOUR: 'it returns false'. Refute it at one input. -/
def classRelationWrong : ChangeSpec := { name := "classRelation", fn := fun _ => fun
  | [d] => { results := [.lit (.bool false)], args := [d] }
  | _ => none }
def ClassRelationWrongFalsely : Prop := classRelationRow.holds Try.pinned (OpenSpec.ofChange classRelationWrong)

/-- 'parquetlaw11.ClassPlaces': WHATEVER THE INPUT: true; the input reads as it did. -/
def classPlacesSpec : ChangeSpec := { name := "classPlaces", fn := fun _ => fun
  | [d] => { results := [.lit (.bool true)], args := [d] }
  | _ => none }
def classPlacesRow : OpenClaim := { program := "ytifnooogklfifaa", sum := "cbd1363c45c6fc6a6944271cf1fa10b4ba3d810d958b88ca4b515fb846690893", func := "parquet/parquetlaw11.ClassPlaces", spec := "classPlaces", unfollowed := true, recurses := true, plainKeys := false, apart := false }
def ClassPlacesSaid : Prop := classPlacesRow.holds Try.pinned (OpenSpec.ofChange classPlacesSpec)

/-- ITS FALSE NEIGHBOUR: 'it returns false'. Refute it at one input. -/
def classPlacesWrong : ChangeSpec := { name := "classPlaces", fn := fun _ => fun
  | [d] => { results := [.lit (.bool false)], args := [d] }
  | _ => none }
def ClassPlacesWrongFalsely : Prop := classPlacesRow.holds Try.pinned (OpenSpec.ofChange classPlacesWrong)

/-- 'parquetlaw11.ClassKnown': WHATEVER THE INPUT: true; the input reads as it did. -/
def classKnownSpec : ChangeSpec := { name := "classKnown", fn := fun _ => fun
  | [] => { results := [.lit (.bool true)], args := [] }
  | _ => none }
def classKnownRow : OpenClaim := { program := "ytifnooogklfifaa", sum := "cbd1363c45c6fc6a6944271cf1fa10b4ba3d810d958b88ca4b515fb846690893", func := "parquet/parquetlaw11.ClassKnown", spec := "classKnown", unfollowed := true, recurses := true, plainKeys := false, apart := false }
def ClassKnownSaid : Prop := classKnownRow.holds Try.pinned (OpenSpec.ofChange classKnownSpec)

/-- ITS FALSE NEIGHBOUR: 'it returns false'. Refute it at one input. -/
def classKnownWrong : ChangeSpec := { name := "classKnown", fn := fun _ => fun
  | [] => { results := [.lit (.bool false)], args := [] }
  | _ => none }
def ClassKnownWrongFalsely : Prop := classKnownRow.holds Try.pinned (OpenSpec.ofChange classKnownWrong)

/-- 'parquetlaw11.ClassOnce': WHATEVER THE INPUT: true; the input reads as it did. -/
def classOnceSpec : ChangeSpec := { name := "classOnce", fn := fun _ => fun
  | [d] => { results := [.lit (.bool true)], args := [d] }
  | _ => none }
def classOnceRow : OpenClaim := { program := "ytifnooogklfifaa", sum := "cbd1363c45c6fc6a6944271cf1fa10b4ba3d810d958b88ca4b515fb846690893", func := "parquet/parquetlaw11.ClassOnce", spec := "classOnce", unfollowed := true, recurses := true, plainKeys := false, apart := false }
def ClassOnceSaid : Prop := classOnceRow.holds Try.pinned (OpenSpec.ofChange classOnceSpec)

/-- ITS FALSE NEIGHBOUR: 'it returns false'. Refute it at one input. -/
def classOnceWrong : ChangeSpec := { name := "classOnce", fn := fun _ => fun
  | [d] => { results := [.lit (.bool false)], args := [d] }
  | _ => none }
def ClassOnceWrongFalsely : Prop := classOnceRow.holds Try.pinned (OpenSpec.ofChange classOnceWrong)

/- THE SECOND FORM. 'bulk': how many values and letters a reading holds, each counted each time it is reached (what is shared counts as often as it is met; a slice's spare places count too). A statement '..UptoSaid' is the law's where the arguments, and the package variables that the reading takes, are together of bulk at most 1048576: NARROWER than '..Said'. Prove '..Said' where nothing that the law and all that it calls make is longer than what came in: it says more and counts as full. Else prove '..UptoSaid'. A law counts once. -/
mutual
def uptoBulk {H : Type} : DataW H → Nat
  | .lit (.string bytes) => bytes.length + 1
  | .lit _ => 1
  | .nil => 1
  | .ptr d => uptoBulk d + 1
  | .slice elems spare => uptoBulkAll elems + uptoBulkAll spare + 1
  | .agg parts => uptoBulkAll parts + 1
  | .iface _ d => uptoBulk d + 1
  | .map entries => uptoBulkEntries entries + 1
  | .held _ => 1
def uptoBulkAll {H : Type} : List (DataW H) → Nat
  | [] => 0
  | d :: r => uptoBulk d + uptoBulkAll r
def uptoBulkEntries {H : Type} : List (Lit × DataW H) → Nat
  | [] => 0
  | x :: r => uptoBulkEntry x + uptoBulkEntries r
def uptoBulkEntry {H : Type} : Lit × DataW H → Nat
  | (.string bytes, d) => bytes.length + uptoBulk d + 1
  | (_, d) => uptoBulk d + 1
 end
def uptoSmall : (H : Type) → List (DataW H) → Bool := fun _ ds => decide (uptoBulkAll ds ≤ 1048576)
def OpenSpec.upto (s : _root_.Go.ChangeSpec) : _root_.Go.OpenSpec := { _root_.Go.OpenSpec.ofChange s with cond := some uptoSmall }

/-- 'parquetlaw11.ClassLists', WHERE WHAT IT READS IS OF BULK AT MOST 1048576: true; the input reads as it did. -/
def classListsUptoRow : OpenClaim := { program := "ytifnooogklfifaa", sum := "cbd1363c45c6fc6a6944271cf1fa10b4ba3d810d958b88ca4b515fb846690893", func := "parquet/parquetlaw11.ClassLists", spec := "classLists", unfollowed := true, recurses := true, plainKeys := false, apart := false, narrowed := true }
def ClassListsUptoSaid : Prop := classListsUptoRow.holds Try.pinned (OpenSpec.upto classListsSpec)

/-- 'parquetlaw11.ClassWeighs', WHERE WHAT IT READS IS OF BULK AT MOST 1048576: true; the input reads as it did. -/
def classWeighsUptoRow : OpenClaim := { program := "ytifnooogklfifaa", sum := "cbd1363c45c6fc6a6944271cf1fa10b4ba3d810d958b88ca4b515fb846690893", func := "parquet/parquetlaw11.ClassWeighs", spec := "classWeighs", unfollowed := true, recurses := true, plainKeys := false, apart := false, narrowed := true }
def ClassWeighsUptoSaid : Prop := classWeighsUptoRow.holds Try.pinned (OpenSpec.upto classWeighsSpec)

/-- 'parquetlaw11.ClassRelation', WHERE WHAT IT READS IS OF BULK AT MOST 1048576: true; the input reads as it did. -/
def classRelationUptoRow : OpenClaim := { program := "ytifnooogklfifaa", sum := "cbd1363c45c6fc6a6944271cf1fa10b4ba3d810d958b88ca4b515fb846690893", func := "parquet/parquetlaw11.ClassRelation", spec := "classRelation", unfollowed := true, recurses := true, plainKeys := false, apart := false, narrowed := true }
def ClassRelationUptoSaid : Prop := classRelationUptoRow.holds Try.pinned (OpenSpec.upto classRelationSpec)

/-- 'parquetlaw11.ClassPlaces', WHERE WHAT IT READS IS OF BULK AT MOST 1048576: true; the input reads as it did. -/
def classPlacesUptoRow : OpenClaim := { program := "ytifnooogklfifaa", sum := "cbd1363c45c6fc6a6944271cf1fa10b4ba3d810d958b88ca4b515fb846690893", func := "parquet/parquetlaw11.ClassPlaces", spec := "classPlaces", unfollowed := true, recurses := true, plainKeys := false, apart := false, narrowed := true }
def ClassPlacesUptoSaid : Prop := classPlacesUptoRow.holds Try.pinned (OpenSpec.upto classPlacesSpec)

/-- 'parquetlaw11.ClassKnown', WHERE WHAT IT READS IS OF BULK AT MOST 1048576: true; the input reads as it did. -/
def classKnownUptoRow : OpenClaim := { program := "ytifnooogklfifaa", sum := "cbd1363c45c6fc6a6944271cf1fa10b4ba3d810d958b88ca4b515fb846690893", func := "parquet/parquetlaw11.ClassKnown", spec := "classKnown", unfollowed := true, recurses := true, plainKeys := false, apart := false, narrowed := true }
def ClassKnownUptoSaid : Prop := classKnownUptoRow.holds Try.pinned (OpenSpec.upto classKnownSpec)

/-- 'parquetlaw11.ClassOnce', WHERE WHAT IT READS IS OF BULK AT MOST 1048576: true; the input reads as it did. -/
def classOnceUptoRow : OpenClaim := { program := "ytifnooogklfifaa", sum := "cbd1363c45c6fc6a6944271cf1fa10b4ba3d810d958b88ca4b515fb846690893", func := "parquet/parquetlaw11.ClassOnce", spec := "classOnce", unfollowed := true, recurses := true, plainKeys := false, apart := false, narrowed := true }
def ClassOnceUptoSaid : Prop := classOnceUptoRow.holds Try.pinned (OpenSpec.upto classOnceSpec)

end Rows
end Go.Proofs.Ytifnooogklfifaa
