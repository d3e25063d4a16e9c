/-
  No cell of these rows narrows 'for every input' (looked for: loops, veiled, ifaces, maps, wideKeys, modest, calm, conditions, laid).
  DERIVED. THE GIVEN ROWS OF THIS SEAT. 8 by the template 'for every input the law returns true; each argument reads behind the call as it read before'; 0 by the template 'total and deterministic' (their statements: YtgpobephldelaaaTotals.lean).
  GIVEN WITH THE SEED: the statements are not yours to turn. If you find one false, say at which input.
  Laid BY PROGRAM, IN A SANDBOX (cutbox-rows.mjs): the forced cells as the released guide's own fill.sh prints them over the translation 439269efe8cc73d1… (all of the seat's roots in one cut). By AI agents, Wed Nov 11 2026. No macro, syntax, notation, axiom, sorry.
-/
import Derived.Test.YtgpobephldelaaaChecked
import GoSem.Claim
import GoSem.ClaimJoined
import GoSem.ClaimMapViews
import Derived.JoinedTies
import Derived.KernelRfl
namespace Go.Proofs.Ytgpobephldelaaa
/- THE CELL 'sum', in the pinned program and in every row, IS THE sha256 OF THE DUMP (.gsa) THAT YtgpobephldelaaaProg.lean LOADS. Nothing in Lean hashes anything: it is a label: what it is worth is what the hold of that sum in a sandbox is worth. -/
noncomputable def Try.pinned : Pinned := { name := "ytgpobephldelaaa", sum := "439269efe8cc73d117b3f98a1d6789aad9bd5d1f4e6ca727f87a47de07c9888f", checked := Try.checked }
namespace Rows
def none {H : Type} : Left H := { results := [], args := [] }

/-- 'zoetropelaw15.MotionSingles': WHATEVER THE INPUT: true; the input reads as it did. -/
def motionSinglesSpec : ChangeSpec := { name := "motionSingles", fn := fun _ => fun
  | [d1, d2] => { results := [.lit (.bool true)], args := [d1, d2] }
  | _ => none }
def motionSinglesRow : OpenClaim := { program := "ytgpobephldelaaa", sum := "439269efe8cc73d117b3f98a1d6789aad9bd5d1f4e6ca727f87a47de07c9888f", func := "zoetrope/zoetropelaw15.MotionSingles", spec := "motionSingles", unfollowed := true, recurses := true, apart := false }
def MotionSinglesSaid : Prop := motionSinglesRow.holds Try.pinned (OpenSpec.ofChange motionSinglesSpec)

/-- ITS FALSE NEIGHBOUR: 'it returns false'. Refute it at one input. -/
def motionSinglesWrong : ChangeSpec := { name := "motionSingles", fn := fun _ => fun
  | [d1, d2] => { results := [.lit (.bool false)], args := [d1, d2] }
  | _ => none }
def MotionSinglesWrongFalsely : Prop := motionSinglesRow.holds Try.pinned (OpenSpec.ofChange motionSinglesWrong)

/-- 'zoetropelaw15.MotionPairs': WHATEVER THE INPUT: true; the input reads as it did. -/
def motionPairsSpec : ChangeSpec := { name := "motionPairs", fn := fun _ => fun
  | [d1, d2, d3] => { results := [.lit (.bool true)], args := [d1, d2, d3] }
  | _ => none }
def motionPairsRow : OpenClaim := { program := "ytgpobephldelaaa", sum := "439269efe8cc73d117b3f98a1d6789aad9bd5d1f4e6ca727f87a47de07c9888f", func := "zoetrope/zoetropelaw15.MotionPairs", spec := "motionPairs", unfollowed := true, recurses := true, apart := false }
def MotionPairsSaid : Prop := motionPairsRow.holds Try.pinned (OpenSpec.ofChange motionPairsSpec)

/-- ITS FALSE NEIGHBOUR: 'it returns false'. Refute it at one input. -/
def motionPairsWrong : ChangeSpec := { name := "motionPairs", fn := fun _ => fun
  | [d1, d2, d3] => { results := [.lit (.bool false)], args := [d1, d2, d3] }
  | _ => none }
def MotionPairsWrongFalsely : Prop := motionPairsRow.holds Try.pinned (OpenSpec.ofChange motionPairsWrong)

/-- 'zoetropelaw15.MotionBlends': WHATEVER THE INPUT: true; the input reads as it did. -/
def motionBlendsSpec : ChangeSpec := { name := "motionBlends", fn := fun _ => fun
  | [d] => { results := [.lit (.bool true)], args := [d] }
  | _ => none }
def motionBlendsRow : OpenClaim := { program := "ytgpobephldelaaa", sum := "439269efe8cc73d117b3f98a1d6789aad9bd5d1f4e6ca727f87a47de07c9888f", func := "zoetrope/zoetropelaw15.MotionBlends", spec := "motionBlends", unfollowed := true, recurses := true, apart := false }
def MotionBlendsSaid : Prop := motionBlendsRow.holds Try.pinned (OpenSpec.ofChange motionBlendsSpec)

/-- ITS FALSE NEIGHBOUR: 'it returns false'. Refute it at one input. -/
def motionBlendsWrong : ChangeSpec := { name := "motionBlends", fn := fun _ => fun
  | [d] => { results := [.lit (.bool false)], args := [d] }
  | _ => none }
def MotionBlendsWrongFalsely : Prop := motionBlendsRow.holds Try.pinned (OpenSpec.ofChange motionBlendsWrong)

/-- 'zoetropelaw15.MotionFurther': WHATEVER THE INPUT: true; the input reads as it did. -/
def motionFurtherSpec : ChangeSpec := { name := "motionFurther", fn := fun _ => fun
  | [d1, d2, d3] => { results := [.lit (.bool true)], args := [d1, d2, d3] }
  | _ => none }
def motionFurtherRow : OpenClaim := { program := "ytgpobephldelaaa", sum := "439269efe8cc73d117b3f98a1d6789aad9bd5d1f4e6ca727f87a47de07c9888f", func := "zoetrope/zoetropelaw15.MotionFurther", spec := "motionFurther", unfollowed := true, recurses := true, apart := false }
def MotionFurtherSaid : Prop := motionFurtherRow.holds Try.pinned (OpenSpec.ofChange motionFurtherSpec)

/-- ITS FALSE NEIGHBOUR: 'it returns false'. Refute it at one input. -/
def motionFurtherWrong : ChangeSpec := { name := "motionFurther", fn := fun _ => fun
  | [d1, d2, d3] => { results := [.lit (.bool false)], args := [d1, d2, d3] }
  | _ => none }
def MotionFurtherWrongFalsely : Prop := motionFurtherRow.holds Try.pinned (OpenSpec.ofChange motionFurtherWrong)

/-- 'zoetropelaw15.MotionBetween': WHATEVER THE INPUT: true; the input reads as it did. -/
def motionBetweenSpec : ChangeSpec := { name := "motionBetween", fn := fun _ => fun
  | [d1, d2] => { results := [.lit (.bool true)], args := [d1, d2] }
  | _ => none }
def motionBetweenRow : OpenClaim := { program := "ytgpobephldelaaa", sum := "439269efe8cc73d117b3f98a1d6789aad9bd5d1f4e6ca727f87a47de07c9888f", func := "zoetrope/zoetropelaw15.MotionBetween", spec := "motionBetween", unfollowed := true, recurses := true, apart := false }
def MotionBetweenSaid : Prop := motionBetweenRow.holds Try.pinned (OpenSpec.ofChange motionBetweenSpec)

/-- ITS FALSE NEIGHBOUR: 'it returns false'. Refute it at one input. -/
def motionBetweenWrong : ChangeSpec := { name := "motionBetween", fn := fun _ => fun
  | [d1, d2] => { results := [.lit (.bool false)], args := [d1, d2] }
  | _ => none }
def MotionBetweenWrongFalsely : Prop := motionBetweenRow.holds Try.pinned (OpenSpec.ofChange motionBetweenWrong)

/-- 'zoetropelaw15.MotionTurned': WHATEVER THE INPUT: true; the input reads as it did. -/
def motionTurnedSpec : ChangeSpec := { name := "motionTurned", fn := fun _ => fun
  | [d] => { results := [.lit (.bool true)], args := [d] }
  | _ => none }
def motionTurnedRow : OpenClaim := { program := "ytgpobephldelaaa", sum := "439269efe8cc73d117b3f98a1d6789aad9bd5d1f4e6ca727f87a47de07c9888f", func := "zoetrope/zoetropelaw15.MotionTurned", spec := "motionTurned", unfollowed := true, recurses := true, apart := false }
def MotionTurnedSaid : Prop := motionTurnedRow.holds Try.pinned (OpenSpec.ofChange motionTurnedSpec)

/-- ITS FALSE NEIGHBOUR: 'it returns false'. Refute it at one input. -/
def motionTurnedWrong : ChangeSpec := { name := "motionTurned", fn := fun _ => fun
  | [d] => { results := [.lit (.bool false)], args := [d] }
  | _ => none }
def MotionTurnedWrongFalsely : Prop := motionTurnedRow.holds Try.pinned (OpenSpec.ofChange motionTurnedWrong)

/-- 'zoetropelaw15.MotionKnown': WHATEVER THE INPUT: true; the input reads as it did. -/
def motionKnownSpec : ChangeSpec := { name := "motionKnown", fn := fun _ => fun
  | [] => { results := [.lit (.bool true)], args := [] }
  | _ => none }
def motionKnownRow : OpenClaim := { program := "ytgpobephldelaaa", sum := "439269efe8cc73d117b3f98a1d6789aad9bd5d1f4e6ca727f87a47de07c9888f", func := "zoetrope/zoetropelaw15.MotionKnown", spec := "motionKnown", unfollowed := true, recurses := true, apart := false }
def MotionKnownSaid : Prop := motionKnownRow.holds Try.pinned (OpenSpec.ofChange motionKnownSpec)

/-- ITS FALSE NEIGHBOUR: 'it returns false'. Refute it at one input. -/
def motionKnownWrong : ChangeSpec := { name := "motionKnown", fn := fun _ => fun
  | [] => { results := [.lit (.bool false)], args := [] }
  | _ => none }
def MotionKnownWrongFalsely : Prop := motionKnownRow.holds Try.pinned (OpenSpec.ofChange motionKnownWrong)

/-- 'zoetropelaw15.MotionWhole': WHATEVER THE INPUT: true; the input reads as it did. -/
def motionWholeSpec : ChangeSpec := { name := "motionWhole", fn := fun _ => fun
  | [d1, d2] => { results := [.lit (.bool true)], args := [d1, d2] }
  | _ => none }
def motionWholeRow : OpenClaim := { program := "ytgpobephldelaaa", sum := "439269efe8cc73d117b3f98a1d6789aad9bd5d1f4e6ca727f87a47de07c9888f", func := "zoetrope/zoetropelaw15.MotionWhole", spec := "motionWhole", unfollowed := true, recurses := true, apart := false }
def MotionWholeSaid : Prop := motionWholeRow.holds Try.pinned (OpenSpec.ofChange motionWholeSpec)

/-- ITS FALSE NEIGHBOUR: 'it returns false'. Refute it at one input. -/
def motionWholeWrong : ChangeSpec := { name := "motionWhole", fn := fun _ => fun
  | [d1, d2] => { results := [.lit (.bool false)], args := [d1, d2] }
  | _ => none }
def MotionWholeWrongFalsely : Prop := motionWholeRow.holds Try.pinned (OpenSpec.ofChange motionWholeWrong)

/- THE SECOND FORM. 'bulk': how many values and letters a reading holds, each counted each time it is reached (what is shared counts as often as it is met; a slice's spare places count too). A statement '..UptoSaid' is the law's where the arguments, and the package variables that the reading takes, are together of bulk at most 1048576: NARROWER than '..Said'. Prove '..Said' where nothing that the law and all that it calls make is longer than what came in: it says more and counts as full. Else prove '..UptoSaid'. A law counts once. -/
mutual
def uptoBulk {H : Type} : DataW H → Nat
  | .lit (.string bytes) => bytes.length + 1
  | .lit _ => 1
  | .nil => 1
  | .ptr d => uptoBulk d + 1
  | .slice elems spare => uptoBulkAll elems + uptoBulkAll spare + 1
  | .agg parts => uptoBulkAll parts + 1
  | .iface _ d => uptoBulk d + 1
  | .map entries => uptoBulkEntries entries + 1
  | .held _ => 1
def uptoBulkAll {H : Type} : List (DataW H) → Nat
  | [] => 0
  | d :: r => uptoBulk d + uptoBulkAll r
def uptoBulkEntries {H : Type} : List (Lit × DataW H) → Nat
  | [] => 0
  | x :: r => uptoBulkEntry x + uptoBulkEntries r
def uptoBulkEntry {H : Type} : Lit × DataW H → Nat
  | (.string bytes, d) => bytes.length + uptoBulk d + 1
  | (_, d) => uptoBulk d + 1
 end
def uptoSmall : (H : Type) → List (DataW H) → Bool := fun _ ds => decide (uptoBulkAll ds ≤ 1048576)
def OpenSpec.upto (s : _root_.Go.ChangeSpec) : _root_.Go.OpenSpec := { _root_.Go.OpenSpec.ofChange s with cond := some uptoSmall }

/-- 'zoetropelaw15.MotionSingles', WHERE WHAT IT READS IS OF BULK AT MOST 1048576: true; the input reads as it did. -/
def motionSinglesUptoRow : OpenClaim := { program := "ytgpobephldelaaa", sum := "439269efe8cc73d117b3f98a1d6789aad9bd5d1f4e6ca727f87a47de07c9888f", func := "zoetrope/zoetropelaw15.MotionSingles", spec := "motionSingles", unfollowed := true, recurses := true, apart := false, narrowed := true }
def MotionSinglesUptoSaid : Prop := motionSinglesUptoRow.holds Try.pinned (OpenSpec.upto motionSinglesSpec)

/-- 'zoetropelaw15.MotionPairs', WHERE WHAT IT READS IS OF BULK AT MOST 1048576: true; the input reads as it did. -/
def motionPairsUptoRow : OpenClaim := { program := "ytgpobephldelaaa", sum := "439269efe8cc73d117b3f98a1d6789aad9bd5d1f4e6ca727f87a47de07c9888f", func := "zoetrope/zoetropelaw15.MotionPairs", spec := "motionPairs", unfollowed := true, recurses := true, apart := false, narrowed := true }
def MotionPairsUptoSaid : Prop := motionPairsUptoRow.holds Try.pinned (OpenSpec.upto motionPairsSpec)

/-- 'zoetropelaw15.MotionBlends', WHERE WHAT IT READS IS OF BULK AT MOST 1048576: true; the input reads as it did. -/
def motionBlendsUptoRow : OpenClaim := { program := "ytgpobephldelaaa", sum := "439269efe8cc73d117b3f98a1d6789aad9bd5d1f4e6ca727f87a47de07c9888f", func := "zoetrope/zoetropelaw15.MotionBlends", spec := "motionBlends", unfollowed := true, recurses := true, apart := false, narrowed := true }
def MotionBlendsUptoSaid : Prop := motionBlendsUptoRow.holds Try.pinned (OpenSpec.upto motionBlendsSpec)

/-- 'zoetropelaw15.MotionFurther', WHERE WHAT IT READS IS OF BULK AT MOST 1048576: true; the input reads as it did. -/
def motionFurtherUptoRow : OpenClaim := { program := "ytgpobephldelaaa", sum := "439269efe8cc73d117b3f98a1d6789aad9bd5d1f4e6ca727f87a47de07c9888f", func := "zoetrope/zoetropelaw15.MotionFurther", spec := "motionFurther", unfollowed := true, recurses := true, apart := false, narrowed := true }
def MotionFurtherUptoSaid : Prop := motionFurtherUptoRow.holds Try.pinned (OpenSpec.upto motionFurtherSpec)

/-- 'zoetropelaw15.MotionBetween', WHERE WHAT IT READS IS OF BULK AT MOST 1048576: true; the input reads as it did. -/
def motionBetweenUptoRow : OpenClaim := { program := "ytgpobephldelaaa", sum := "439269efe8cc73d117b3f98a1d6789aad9bd5d1f4e6ca727f87a47de07c9888f", func := "zoetrope/zoetropelaw15.MotionBetween", spec := "motionBetween", unfollowed := true, recurses := true, apart := false, narrowed := true }
def MotionBetweenUptoSaid : Prop := motionBetweenUptoRow.holds Try.pinned (OpenSpec.upto motionBetweenSpec)

/-- 'zoetropelaw15.MotionTurned', WHERE WHAT IT READS IS OF BULK AT MOST 1048576: true; the input reads as it did. -/
def motionTurnedUptoRow : OpenClaim := { program := "ytgpobephldelaaa", sum := "439269efe8cc73d117b3f98a1d6789aad9bd5d1f4e6ca727f87a47de07c9888f", func := "zoetrope/zoetropelaw15.MotionTurned", spec := "motionTurned", unfollowed := true, recurses := true, apart := false, narrowed := true }
def MotionTurnedUptoSaid : Prop := motionTurnedUptoRow.holds Try.pinned (OpenSpec.upto motionTurnedSpec)

/-- 'zoetropelaw15.MotionKnown', WHERE WHAT IT READS IS OF BULK AT MOST 1048576: true; the input reads as it did. -/
def motionKnownUptoRow : OpenClaim := { program := "ytgpobephldelaaa", sum := "439269efe8cc73d117b3f98a1d6789aad9bd5d1f4e6ca727f87a47de07c9888f", func := "zoetrope/zoetropelaw15.MotionKnown", spec := "motionKnown", unfollowed := true, recurses := true, apart := false, narrowed := true }
def MotionKnownUptoSaid : Prop := motionKnownUptoRow.holds Try.pinned (OpenSpec.upto motionKnownSpec)

/-- 'zoetropelaw15.MotionWhole', WHERE WHAT IT READS IS OF BULK AT MOST 1048576: true; the input reads as it did. -/
def motionWholeUptoRow : OpenClaim := { program := "ytgpobephldelaaa", sum := "439269efe8cc73d117b3f98a1d6789aad9bd5d1f4e6ca727f87a47de07c9888f", func := "zoetrope/zoetropelaw15.MotionWhole", spec := "motionWhole", unfollowed := true, recurses := true, apart := false, narrowed := true }
def MotionWholeUptoSaid : Prop := motionWholeUptoRow.holds Try.pinned (OpenSpec.upto motionWholeSpec)

end Rows
end Go.Proofs.Ytgpobephldelaaa
