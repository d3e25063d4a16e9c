/-
  No cell of these rows narrows 'for every input' (looked for: loops, veiled, ifaces, maps, wideKeys, modest, calm, conditions, laid).
  DERIVED. THE GIVEN ROWS OF THIS SEAT. 7 by the template 'for every input the law returns true; each argument reads behind the call as it read before'; 0 by the template 'total and deterministic' (their statements: YtibbmknipkifeaaTotals.lean).
  GIVEN WITH THE SEED: the statements are not yours to turn. If you find one false, say at which input.
  Laid BY PROGRAM, IN A SANDBOX (cutbox-rows.mjs): the forced cells as the released guide's own fill.sh prints them over the translation 2af00899dda07f4c… (all of the seat's roots in one cut). By AI agents, Wed Nov 11 2026. No macro, syntax, notation, axiom, sorry.
-/
import Derived.Test.YtibbmknipkifeaaChecked
import GoSem.Claim
import GoSem.ClaimJoined
import GoSem.ClaimMapViews
import Derived.JoinedTies
import Derived.KernelRfl
namespace Go.Proofs.Ytibbmknipkifeaa
/- THE CELL 'sum', in the pinned program and in every row, IS THE sha256 OF THE DUMP (.gsa) THAT YtibbmknipkifeaaProg.lean LOADS. Nothing in Lean hashes anything: it is a label: what it is worth is what the hold of that sum in a sandbox is worth. -/
noncomputable def Try.pinned : Pinned := { name := "ytibbmknipkifeaa", sum := "2af00899dda07f4cdc990874cd495abfdbba4f34ed91d1dc83977721855c3d3a", checked := Try.checked }
namespace Rows
def none {H : Type} : Left H := { results := [], args := [] }

/-- 'zoetropelaw22.DeblockEdges': WHATEVER THE INPUT: true; the input reads as it did. -/
def deblockEdgesSpec : ChangeSpec := { name := "deblockEdges", fn := fun _ => fun
  | [d1, d2, d3] => { results := [.lit (.bool true)], args := [d1, d2, d3] }
  | _ => none }
def deblockEdgesRow : OpenClaim := { program := "ytibbmknipkifeaa", sum := "2af00899dda07f4cdc990874cd495abfdbba4f34ed91d1dc83977721855c3d3a", func := "zoetrope/zoetropelaw22.DeblockEdges", spec := "deblockEdges", unfollowed := true, recurses := true, apart := false }
def DeblockEdgesSaid : Prop := deblockEdgesRow.holds Try.pinned (OpenSpec.ofChange deblockEdgesSpec)

/-- ITS FALSE NEIGHBOUR: 'it returns false'. Refute it at one input. -/
def deblockEdgesWrong : ChangeSpec := { name := "deblockEdges", fn := fun _ => fun
  | [d1, d2, d3] => { results := [.lit (.bool false)], args := [d1, d2, d3] }
  | _ => none }
def DeblockEdgesWrongFalsely : Prop := deblockEdgesRow.holds Try.pinned (OpenSpec.ofChange deblockEdgesWrong)

/-- 'zoetropelaw22.DeblockSteps': WHATEVER THE INPUT: true; the input reads as it did. -/
def deblockStepsSpec : ChangeSpec := { name := "deblockSteps", fn := fun _ => fun
  | [d1, d2, d3] => { results := [.lit (.bool true)], args := [d1, d2, d3] }
  | _ => none }
def deblockStepsRow : OpenClaim := { program := "ytibbmknipkifeaa", sum := "2af00899dda07f4cdc990874cd495abfdbba4f34ed91d1dc83977721855c3d3a", func := "zoetrope/zoetropelaw22.DeblockSteps", spec := "deblockSteps", unfollowed := true, recurses := true, apart := false }
def DeblockStepsSaid : Prop := deblockStepsRow.holds Try.pinned (OpenSpec.ofChange deblockStepsSpec)

/-- ITS FALSE NEIGHBOUR: 'it returns false'. Refute it at one input. -/
def deblockStepsWrong : ChangeSpec := { name := "deblockSteps", fn := fun _ => fun
  | [d1, d2, d3] => { results := [.lit (.bool false)], args := [d1, d2, d3] }
  | _ => none }
def DeblockStepsWrongFalsely : Prop := deblockStepsRow.holds Try.pinned (OpenSpec.ofChange deblockStepsWrong)

/-- 'zoetropelaw22.DeblockPasses': WHATEVER THE INPUT: true; the input reads as it did. -/
def deblockPassesSpec : ChangeSpec := { name := "deblockPasses", fn := fun _ => fun
  | [d1, d2, d3] => { results := [.lit (.bool true)], args := [d1, d2, d3] }
  | _ => none }
def deblockPassesRow : OpenClaim := { program := "ytibbmknipkifeaa", sum := "2af00899dda07f4cdc990874cd495abfdbba4f34ed91d1dc83977721855c3d3a", func := "zoetrope/zoetropelaw22.DeblockPasses", spec := "deblockPasses", unfollowed := true, recurses := true, apart := false }
def DeblockPassesSaid : Prop := deblockPassesRow.holds Try.pinned (OpenSpec.ofChange deblockPassesSpec)

/-- ITS FALSE NEIGHBOUR: 'it returns false'. Refute it at one input. -/
def deblockPassesWrong : ChangeSpec := { name := "deblockPasses", fn := fun _ => fun
  | [d1, d2, d3] => { results := [.lit (.bool false)], args := [d1, d2, d3] }
  | _ => none }
def DeblockPassesWrongFalsely : Prop := deblockPassesRow.holds Try.pinned (OpenSpec.ofChange deblockPassesWrong)

/-- 'zoetropelaw22.DeblockFar': WHATEVER THE INPUT: true; the input reads as it did. -/
def deblockFarSpec : ChangeSpec := { name := "deblockFar", fn := fun _ => fun
  | [d1, d2, d3] => { results := [.lit (.bool true)], args := [d1, d2, d3] }
  | _ => none }
def deblockFarRow : OpenClaim := { program := "ytibbmknipkifeaa", sum := "2af00899dda07f4cdc990874cd495abfdbba4f34ed91d1dc83977721855c3d3a", func := "zoetrope/zoetropelaw22.DeblockFar", spec := "deblockFar", unfollowed := true, recurses := true, apart := false }
def DeblockFarSaid : Prop := deblockFarRow.holds Try.pinned (OpenSpec.ofChange deblockFarSpec)

/-- ITS FALSE NEIGHBOUR: 'it returns false'. Refute it at one input. -/
def deblockFarWrong : ChangeSpec := { name := "deblockFar", fn := fun _ => fun
  | [d1, d2, d3] => { results := [.lit (.bool false)], args := [d1, d2, d3] }
  | _ => none }
def DeblockFarWrongFalsely : Prop := deblockFarRow.holds Try.pinned (OpenSpec.ofChange deblockFarWrong)

/-- 'zoetropelaw22.DeblockTurned': WHATEVER THE INPUT: true; the input reads as it did. -/
def deblockTurnedSpec : ChangeSpec := { name := "deblockTurned", fn := fun _ => fun
  | [d1, d2, d3] => { results := [.lit (.bool true)], args := [d1, d2, d3] }
  | _ => none }
def deblockTurnedRow : OpenClaim := { program := "ytibbmknipkifeaa", sum := "2af00899dda07f4cdc990874cd495abfdbba4f34ed91d1dc83977721855c3d3a", func := "zoetrope/zoetropelaw22.DeblockTurned", spec := "deblockTurned", unfollowed := true, recurses := true, apart := false }
def DeblockTurnedSaid : Prop := deblockTurnedRow.holds Try.pinned (OpenSpec.ofChange deblockTurnedSpec)

/-- ITS FALSE NEIGHBOUR: 'it returns false'. Refute it at one input. -/
def deblockTurnedWrong : ChangeSpec := { name := "deblockTurned", fn := fun _ => fun
  | [d1, d2, d3] => { results := [.lit (.bool false)], args := [d1, d2, d3] }
  | _ => none }
def DeblockTurnedWrongFalsely : Prop := deblockTurnedRow.holds Try.pinned (OpenSpec.ofChange deblockTurnedWrong)

/-- 'zoetropelaw22.DeblockNames': WHATEVER THE INPUT: true; the input reads as it did. -/
def deblockNamesSpec : ChangeSpec := { name := "deblockNames", fn := fun _ => fun
  | [] => { results := [.lit (.bool true)], args := [] }
  | _ => none }
def deblockNamesRow : OpenClaim := { program := "ytibbmknipkifeaa", sum := "2af00899dda07f4cdc990874cd495abfdbba4f34ed91d1dc83977721855c3d3a", func := "zoetrope/zoetropelaw22.DeblockNames", spec := "deblockNames", unfollowed := true, recurses := true, apart := false }
def DeblockNamesSaid : Prop := deblockNamesRow.holds Try.pinned (OpenSpec.ofChange deblockNamesSpec)

/-- ITS FALSE NEIGHBOUR: 'it returns false'. Refute it at one input. -/
def deblockNamesWrong : ChangeSpec := { name := "deblockNames", fn := fun _ => fun
  | [] => { results := [.lit (.bool false)], args := [] }
  | _ => none }
def DeblockNamesWrongFalsely : Prop := deblockNamesRow.holds Try.pinned (OpenSpec.ofChange deblockNamesWrong)

/-- 'zoetropelaw22.DeblockQuiet': WHATEVER THE INPUT: true; the input reads as it did. -/
def deblockQuietSpec : ChangeSpec := { name := "deblockQuiet", fn := fun _ => fun
  | [d1, d2, d3] => { results := [.lit (.bool true)], args := [d1, d2, d3] }
  | _ => none }
def deblockQuietRow : OpenClaim := { program := "ytibbmknipkifeaa", sum := "2af00899dda07f4cdc990874cd495abfdbba4f34ed91d1dc83977721855c3d3a", func := "zoetrope/zoetropelaw22.DeblockQuiet", spec := "deblockQuiet", unfollowed := true, recurses := true, apart := false }
def DeblockQuietSaid : Prop := deblockQuietRow.holds Try.pinned (OpenSpec.ofChange deblockQuietSpec)

/-- ITS FALSE NEIGHBOUR: 'it returns false'. Refute it at one input. -/
def deblockQuietWrong : ChangeSpec := { name := "deblockQuiet", fn := fun _ => fun
  | [d1, d2, d3] => { results := [.lit (.bool false)], args := [d1, d2, d3] }
  | _ => none }
def DeblockQuietWrongFalsely : Prop := deblockQuietRow.holds Try.pinned (OpenSpec.ofChange deblockQuietWrong)

/- THE SECOND FORM. 'bulk': how many values and letters a reading holds, each counted each time it is reached (what is shared counts as often as it is met; a slice's spare places count too). A statement '..UptoSaid' is the law's where the arguments, and the package variables that the reading takes, are together of bulk at most 1048576: NARROWER than '..Said'. Prove '..Said' where nothing that the law and all that it calls make is longer than what came in: it says more and counts as full. Else prove '..UptoSaid'. A law counts once. -/
mutual
def uptoBulk {H : Type} : DataW H → Nat
  | .lit (.string bytes) => bytes.length + 1
  | .lit _ => 1
  | .nil => 1
  | .ptr d => uptoBulk d + 1
  | .slice elems spare => uptoBulkAll elems + uptoBulkAll spare + 1
  | .agg parts => uptoBulkAll parts + 1
  | .iface _ d => uptoBulk d + 1
  | .map entries => uptoBulkEntries entries + 1
  | .held _ => 1
def uptoBulkAll {H : Type} : List (DataW H) → Nat
  | [] => 0
  | d :: r => uptoBulk d + uptoBulkAll r
def uptoBulkEntries {H : Type} : List (Lit × DataW H) → Nat
  | [] => 0
  | x :: r => uptoBulkEntry x + uptoBulkEntries r
def uptoBulkEntry {H : Type} : Lit × DataW H → Nat
  | (.string bytes, d) => bytes.length + uptoBulk d + 1
  | (_, d) => uptoBulk d + 1
 end
def uptoSmall : (H : Type) → List (DataW H) → Bool := fun _ ds => decide (uptoBulkAll ds ≤ 1048576)
def OpenSpec.upto (s : _root_.Go.ChangeSpec) : _root_.Go.OpenSpec := { _root_.Go.OpenSpec.ofChange s with cond := some uptoSmall }

/-- 'zoetropelaw22.DeblockEdges', WHERE WHAT IT READS IS OF BULK AT MOST 1048576: true; the input reads as it did. -/
def deblockEdgesUptoRow : OpenClaim := { program := "ytibbmknipkifeaa", sum := "2af00899dda07f4cdc990874cd495abfdbba4f34ed91d1dc83977721855c3d3a", func := "zoetrope/zoetropelaw22.DeblockEdges", spec := "deblockEdges", unfollowed := true, recurses := true, apart := false, narrowed := true }
def DeblockEdgesUptoSaid : Prop := deblockEdgesUptoRow.holds Try.pinned (OpenSpec.upto deblockEdgesSpec)

/-- 'zoetropelaw22.DeblockSteps', WHERE WHAT IT READS IS OF BULK AT MOST 1048576: true; the input reads as it did. -/
def deblockStepsUptoRow : OpenClaim := { program := "ytibbmknipkifeaa", sum := "2af00899dda07f4cdc990874cd495abfdbba4f34ed91d1dc83977721855c3d3a", func := "zoetrope/zoetropelaw22.DeblockSteps", spec := "deblockSteps", unfollowed := true, recurses := true, apart := false, narrowed := true }
def DeblockStepsUptoSaid : Prop := deblockStepsUptoRow.holds Try.pinned (OpenSpec.upto deblockStepsSpec)

/-- 'zoetropelaw22.DeblockPasses', WHERE WHAT IT READS IS OF BULK AT MOST 1048576: true; the input reads as it did. -/
def deblockPassesUptoRow : OpenClaim := { program := "ytibbmknipkifeaa", sum := "2af00899dda07f4cdc990874cd495abfdbba4f34ed91d1dc83977721855c3d3a", func := "zoetrope/zoetropelaw22.DeblockPasses", spec := "deblockPasses", unfollowed := true, recurses := true, apart := false, narrowed := true }
def DeblockPassesUptoSaid : Prop := deblockPassesUptoRow.holds Try.pinned (OpenSpec.upto deblockPassesSpec)

/-- 'zoetropelaw22.DeblockFar', WHERE WHAT IT READS IS OF BULK AT MOST 1048576: true; the input reads as it did. -/
def deblockFarUptoRow : OpenClaim := { program := "ytibbmknipkifeaa", sum := "2af00899dda07f4cdc990874cd495abfdbba4f34ed91d1dc83977721855c3d3a", func := "zoetrope/zoetropelaw22.DeblockFar", spec := "deblockFar", unfollowed := true, recurses := true, apart := false, narrowed := true }
def DeblockFarUptoSaid : Prop := deblockFarUptoRow.holds Try.pinned (OpenSpec.upto deblockFarSpec)

/-- 'zoetropelaw22.DeblockTurned', WHERE WHAT IT READS IS OF BULK AT MOST 1048576: true; the input reads as it did. -/
def deblockTurnedUptoRow : OpenClaim := { program := "ytibbmknipkifeaa", sum := "2af00899dda07f4cdc990874cd495abfdbba4f34ed91d1dc83977721855c3d3a", func := "zoetrope/zoetropelaw22.DeblockTurned", spec := "deblockTurned", unfollowed := true, recurses := true, apart := false, narrowed := true }
def DeblockTurnedUptoSaid : Prop := deblockTurnedUptoRow.holds Try.pinned (OpenSpec.upto deblockTurnedSpec)

/-- 'zoetropelaw22.DeblockNames', WHERE WHAT IT READS IS OF BULK AT MOST 1048576: true; the input reads as it did. -/
def deblockNamesUptoRow : OpenClaim := { program := "ytibbmknipkifeaa", sum := "2af00899dda07f4cdc990874cd495abfdbba4f34ed91d1dc83977721855c3d3a", func := "zoetrope/zoetropelaw22.DeblockNames", spec := "deblockNames", unfollowed := true, recurses := true, apart := false, narrowed := true }
def DeblockNamesUptoSaid : Prop := deblockNamesUptoRow.holds Try.pinned (OpenSpec.upto deblockNamesSpec)

/-- 'zoetropelaw22.DeblockQuiet', WHERE WHAT IT READS IS OF BULK AT MOST 1048576: true; the input reads as it did. -/
def deblockQuietUptoRow : OpenClaim := { program := "ytibbmknipkifeaa", sum := "2af00899dda07f4cdc990874cd495abfdbba4f34ed91d1dc83977721855c3d3a", func := "zoetrope/zoetropelaw22.DeblockQuiet", spec := "deblockQuiet", unfollowed := true, recurses := true, apart := false, narrowed := true }
def DeblockQuietUptoSaid : Prop := deblockQuietUptoRow.holds Try.pinned (OpenSpec.upto deblockQuietSpec)

end Rows
end Go.Proofs.Ytibbmknipkifeaa
