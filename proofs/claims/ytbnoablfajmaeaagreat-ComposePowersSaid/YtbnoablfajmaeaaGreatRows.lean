/-
  No cell of these rows narrows 'for every input' (looked for: loops, veiled, ifaces, maps, wideKeys, modest, calm, conditions, laid).
  DERIVED. THE GIVEN ROWS OF THIS SEAT. 2 by the template 'for every input the law returns true; each argument reads behind the call as it read before'; 0 by the template 'total and deterministic' (their statements: YtbnoablfajmaeaaGreatTotals.lean).
  GIVEN WITH THE SEED: the statements are not yours to turn. If you find one false, say at which input.
  Laid BY PROGRAM, IN A SANDBOX (cutbox-rows.mjs): the forced cells as the released guide's own fill.sh prints them over the translation 95ceb47cfdbd99cf… (all of the seat's roots in one cut). By AI agents, Wed Nov 11 2026. No macro, syntax, notation, axiom, sorry.
-/
import Derived.Test.YtbnoablfajmaeaaGreatChecked
import GoSem.Claim
import GoSem.ClaimJoined
import GoSem.ClaimMapViews
import Derived.JoinedTies
import Derived.KernelRfl
namespace Go.Proofs.YtbnoablfajmaeaaGreat
/- THE CELL 'sum', in the pinned program and in every row, IS THE sha256 OF THE DUMP (.gsa) THAT YtbnoablfajmaeaaGreatProg.lean LOADS. Nothing in Lean hashes anything: it is a label: what it is worth is what the hold of that sum in a sandbox is worth. -/
noncomputable def Tryz.pinned : Pinned := { name := "ytbnoablfajmaeaagreat", sum := "95ceb47cfdbd99cfc095d78383d3f559ea28bfc046ecdde7b66c601cde580af1", checked := Tryz.checked }
namespace Rows
def none {H : Type} : Left H := { results := [], args := [] }

/-- 'parquetlaw10.ComposePairs': WHATEVER THE INPUT: true; the input reads as it did. -/
def composePairsSpec : ChangeSpec := { name := "composePairs", fn := fun _ => fun
  | [d1, d2] => { results := [.lit (.bool true)], args := [d1, d2] }
  | _ => none }
def composePairsRow : OpenClaim := { program := "ytbnoablfajmaeaagreat", sum := "95ceb47cfdbd99cfc095d78383d3f559ea28bfc046ecdde7b66c601cde580af1", func := "parquet/parquetlaw10.ComposePairs", spec := "composePairs", unfollowed := true, recurses := true, named := ["math/bits.divideError", "math/bits.overflowError"], apart := false }
def ComposePairsSaid : Prop := composePairsRow.holds Tryz.pinned (OpenSpec.ofChange composePairsSpec)

/-- ITS FALSE NEIGHBOUR: 'it returns false'. Refute it at one input. -/
def composePairsWrong : ChangeSpec := { name := "composePairs", fn := fun _ => fun
  | [d1, d2] => { results := [.lit (.bool false)], args := [d1, d2] }
  | _ => none }
def ComposePairsWrongFalsely : Prop := composePairsRow.holds Tryz.pinned (OpenSpec.ofChange composePairsWrong)

/-- 'parquetlaw10.ComposePowers': WHATEVER THE INPUT: true; the input reads as it did. -/
def composePowersSpec : ChangeSpec := { name := "composePowers", fn := fun _ => fun
  | [d1, d2] => { results := [.lit (.bool true)], args := [d1, d2] }
  | _ => none }
def composePowersRow : OpenClaim := { program := "ytbnoablfajmaeaagreat", sum := "95ceb47cfdbd99cfc095d78383d3f559ea28bfc046ecdde7b66c601cde580af1", func := "parquet/parquetlaw10.ComposePowers", spec := "composePowers", unfollowed := true, recurses := true, named := ["math/bits.divideError", "math/bits.overflowError"], apart := false }
def ComposePowersSaid : Prop := composePowersRow.holds Tryz.pinned (OpenSpec.ofChange composePowersSpec)

/-- ITS FALSE NEIGHBOUR: 'it returns false'. Refute it at one input. -/
def composePowersWrong : ChangeSpec := { name := "composePowers", fn := fun _ => fun
  | [d1, d2] => { results := [.lit (.bool false)], args := [d1, d2] }
  | _ => none }
def ComposePowersWrongFalsely : Prop := composePowersRow.holds Tryz.pinned (OpenSpec.ofChange composePowersWrong)

/- THE SECOND FORM. 'bulk': how many values and letters a reading holds, each counted each time it is reached (what is shared counts as often as it is met; a slice's spare places count too). A statement '..UptoSaid' is the law's where the arguments, and the package variables that the reading takes, are together of bulk at most 1048576: NARROWER than '..Said'. Prove '..Said' where nothing that the law and all that it calls make is longer than what came in: it says more and counts as full. Else prove '..UptoSaid'. A law counts once. -/
mutual
def uptoBulk {H : Type} : DataW H → Nat
  | .lit (.string bytes) => bytes.length + 1
  | .lit _ => 1
  | .nil => 1
  | .ptr d => uptoBulk d + 1
  | .slice elems spare => uptoBulkAll elems + uptoBulkAll spare + 1
  | .agg parts => uptoBulkAll parts + 1
  | .iface _ d => uptoBulk d + 1
  | .map entries => uptoBulkEntries entries + 1
  | .held _ => 1
def uptoBulkAll {H : Type} : List (DataW H) → Nat
  | [] => 0
  | d :: r => uptoBulk d + uptoBulkAll r
def uptoBulkEntries {H : Type} : List (Lit × DataW H) → Nat
  | [] => 0
  | x :: r => uptoBulkEntry x + uptoBulkEntries r
def uptoBulkEntry {H : Type} : Lit × DataW H → Nat
  | (.string bytes, d) => bytes.length + uptoBulk d + 1
  | (_, d) => uptoBulk d + 1
 end
def uptoSmall : (H : Type) → List (DataW H) → Bool := fun _ ds => decide (uptoBulkAll ds ≤ 1048576)
def OpenSpec.upto (s : _root_.Go.ChangeSpec) : _root_.Go.OpenSpec := { _root_.Go.OpenSpec.ofChange s with cond := some uptoSmall }

/-- 'parquetlaw10.ComposePairs', WHERE WHAT IT READS IS OF BULK AT MOST 1048576: true; the input reads as it did. -/
def composePairsUptoRow : OpenClaim := { program := "ytbnoablfajmaeaagreat", sum := "95ceb47cfdbd99cfc095d78383d3f559ea28bfc046ecdde7b66c601cde580af1", func := "parquet/parquetlaw10.ComposePairs", spec := "composePairs", unfollowed := true, recurses := true, named := ["math/bits.divideError", "math/bits.overflowError"], apart := false, narrowed := true }
def ComposePairsUptoSaid : Prop := composePairsUptoRow.holds Tryz.pinned (OpenSpec.upto composePairsSpec)

/-- 'parquetlaw10.ComposePowers', WHERE WHAT IT READS IS OF BULK AT MOST 1048576: true; the input reads as it did. -/
def composePowersUptoRow : OpenClaim := { program := "ytbnoablfajmaeaagreat", sum := "95ceb47cfdbd99cfc095d78383d3f559ea28bfc046ecdde7b66c601cde580af1", func := "parquet/parquetlaw10.ComposePowers", spec := "composePowers", unfollowed := true, recurses := true, named := ["math/bits.divideError", "math/bits.overflowError"], apart := false, narrowed := true }
def ComposePowersUptoSaid : Prop := composePowersUptoRow.holds Tryz.pinned (OpenSpec.upto composePowersSpec)

end Rows
end Go.Proofs.YtbnoablfajmaeaaGreat
