/-
  No cell of these rows narrows 'for every input' (looked for: loops, veiled, ifaces, maps, wideKeys, modest, calm, conditions, laid).
  DERIVED. THE GIVEN ROWS OF THIS SEAT. 6 by the template 'for every input the law returns true; each argument reads behind the call as it read before'; 0 by the template 'total and deterministic' (their statements: YtfghnhhhlckafaaTotals.lean).
  GIVEN WITH THE SEED: the statements are not yours to turn. If you find one false, say at which input.
  Laid BY PROGRAM, IN A SANDBOX (cutbox-rows.mjs): the forced cells as the released guide's own fill.sh prints them over the translation 348119747a3a0761… (all of the seat's roots in one cut). By AI agents, Wed Nov 11 2026. No macro, syntax, notation, axiom, sorry.
-/
import Derived.Test.YtfghnhhhlckafaaChecked
import GoSem.Claim
import GoSem.ClaimJoined
import GoSem.ClaimMapViews
import Derived.JoinedTies
import Derived.KernelRfl
namespace Go.Proofs.Ytfghnhhhlckafaa
/- THE CELL 'sum', in the pinned program and in every row, IS THE sha256 OF THE DUMP (.gsa) THAT YtfghnhhhlckafaaProg.lean LOADS. Nothing in Lean hashes anything: it is a label: what it is worth is what the hold of that sum in a sandbox is worth. -/
noncomputable def Try.pinned : Pinned := { name := "ytfghnhhhlckafaa", sum := "348119747a3a07619389aded48cba538cc1242a2bc2e24f1b8ff6f9b397fd135", checked := Try.checked }
namespace Rows
def none {H : Type} : Left H := { results := [], args := [] }

/-- 'zoetropelaw24.WienerTaps': WHATEVER THE INPUT: true; the input reads as it did. -/
def wienerTapsSpec : ChangeSpec := { name := "wienerTaps", fn := fun _ => fun
  | [d] => { results := [.lit (.bool true)], args := [d] }
  | _ => none }
def wienerTapsRow : OpenClaim := { program := "ytfghnhhhlckafaa", sum := "348119747a3a07619389aded48cba538cc1242a2bc2e24f1b8ff6f9b397fd135", func := "zoetrope/zoetropelaw24.WienerTaps", spec := "wienerTaps", unfollowed := true, recurses := true, apart := false }
def WienerTapsSaid : Prop := wienerTapsRow.holds Try.pinned (OpenSpec.ofChange wienerTapsSpec)

/-- ITS FALSE NEIGHBOUR: 'it returns false'. Refute it at one input. -/
def wienerTapsWrong : ChangeSpec := { name := "wienerTaps", fn := fun _ => fun
  | [d] => { results := [.lit (.bool false)], args := [d] }
  | _ => none }
def WienerTapsWrongFalsely : Prop := wienerTapsRow.holds Try.pinned (OpenSpec.ofChange wienerTapsWrong)

/-- 'zoetropelaw24.WienerPlanes': WHATEVER THE INPUT: true; the input reads as it did. -/
def wienerPlanesSpec : ChangeSpec := { name := "wienerPlanes", fn := fun _ => fun
  | [d1, d2, d3] => { results := [.lit (.bool true)], args := [d1, d2, d3] }
  | _ => none }
def wienerPlanesRow : OpenClaim := { program := "ytfghnhhhlckafaa", sum := "348119747a3a07619389aded48cba538cc1242a2bc2e24f1b8ff6f9b397fd135", func := "zoetrope/zoetropelaw24.WienerPlanes", spec := "wienerPlanes", unfollowed := true, recurses := true, apart := false }
def WienerPlanesSaid : Prop := wienerPlanesRow.holds Try.pinned (OpenSpec.ofChange wienerPlanesSpec)

/-- ITS FALSE NEIGHBOUR: 'it returns false'. Refute it at one input. -/
def wienerPlanesWrong : ChangeSpec := { name := "wienerPlanes", fn := fun _ => fun
  | [d1, d2, d3] => { results := [.lit (.bool false)], args := [d1, d2, d3] }
  | _ => none }
def WienerPlanesWrongFalsely : Prop := wienerPlanesRow.holds Try.pinned (OpenSpec.ofChange wienerPlanesWrong)

/-- 'zoetropelaw24.WienerNear': WHATEVER THE INPUT: true; the input reads as it did. -/
def wienerNearSpec : ChangeSpec := { name := "wienerNear", fn := fun _ => fun
  | [d1, d2, d3] => { results := [.lit (.bool true)], args := [d1, d2, d3] }
  | _ => none }
def wienerNearRow : OpenClaim := { program := "ytfghnhhhlckafaa", sum := "348119747a3a07619389aded48cba538cc1242a2bc2e24f1b8ff6f9b397fd135", func := "zoetrope/zoetropelaw24.WienerNear", spec := "wienerNear", unfollowed := true, recurses := true, apart := false }
def WienerNearSaid : Prop := wienerNearRow.holds Try.pinned (OpenSpec.ofChange wienerNearSpec)

/-- ITS FALSE NEIGHBOUR: 'it returns false'. Refute it at one input. -/
def wienerNearWrong : ChangeSpec := { name := "wienerNear", fn := fun _ => fun
  | [d1, d2, d3] => { results := [.lit (.bool false)], args := [d1, d2, d3] }
  | _ => none }
def WienerNearWrongFalsely : Prop := wienerNearRow.holds Try.pinned (OpenSpec.ofChange wienerNearWrong)

/-- 'zoetropelaw24.WienerSquares': WHATEVER THE INPUT: true; the input reads as it did. -/
def wienerSquaresSpec : ChangeSpec := { name := "wienerSquares", fn := fun _ => fun
  | [d1, d2, d3] => { results := [.lit (.bool true)], args := [d1, d2, d3] }
  | _ => none }
def wienerSquaresRow : OpenClaim := { program := "ytfghnhhhlckafaa", sum := "348119747a3a07619389aded48cba538cc1242a2bc2e24f1b8ff6f9b397fd135", func := "zoetrope/zoetropelaw24.WienerSquares", spec := "wienerSquares", unfollowed := true, recurses := true, apart := false }
def WienerSquaresSaid : Prop := wienerSquaresRow.holds Try.pinned (OpenSpec.ofChange wienerSquaresSpec)

/-- ITS FALSE NEIGHBOUR: 'it returns false'. Refute it at one input. -/
def wienerSquaresWrong : ChangeSpec := { name := "wienerSquares", fn := fun _ => fun
  | [d1, d2, d3] => { results := [.lit (.bool false)], args := [d1, d2, d3] }
  | _ => none }
def WienerSquaresWrongFalsely : Prop := wienerSquaresRow.holds Try.pinned (OpenSpec.ofChange wienerSquaresWrong)

/-- 'zoetropelaw24.WienerNames': WHATEVER THE INPUT: true; the input reads as it did. -/
def wienerNamesSpec : ChangeSpec := { name := "wienerNames", fn := fun _ => fun
  | [] => { results := [.lit (.bool true)], args := [] }
  | _ => none }
def wienerNamesRow : OpenClaim := { program := "ytfghnhhhlckafaa", sum := "348119747a3a07619389aded48cba538cc1242a2bc2e24f1b8ff6f9b397fd135", func := "zoetrope/zoetropelaw24.WienerNames", spec := "wienerNames", unfollowed := true, recurses := true, apart := false }
def WienerNamesSaid : Prop := wienerNamesRow.holds Try.pinned (OpenSpec.ofChange wienerNamesSpec)

/-- ITS FALSE NEIGHBOUR: 'it returns false'. Refute it at one input. -/
def wienerNamesWrong : ChangeSpec := { name := "wienerNames", fn := fun _ => fun
  | [] => { results := [.lit (.bool false)], args := [] }
  | _ => none }
def WienerNamesWrongFalsely : Prop := wienerNamesRow.holds Try.pinned (OpenSpec.ofChange wienerNamesWrong)

/-- 'zoetropelaw24.WienerStays': WHATEVER THE INPUT: true; the input reads as it did. -/
def wienerStaysSpec : ChangeSpec := { name := "wienerStays", fn := fun _ => fun
  | [d1, d2, d3] => { results := [.lit (.bool true)], args := [d1, d2, d3] }
  | _ => none }
def wienerStaysRow : OpenClaim := { program := "ytfghnhhhlckafaa", sum := "348119747a3a07619389aded48cba538cc1242a2bc2e24f1b8ff6f9b397fd135", func := "zoetrope/zoetropelaw24.WienerStays", spec := "wienerStays", unfollowed := true, recurses := true, apart := false }
def WienerStaysSaid : Prop := wienerStaysRow.holds Try.pinned (OpenSpec.ofChange wienerStaysSpec)

/-- ITS FALSE NEIGHBOUR: 'it returns false'. Refute it at one input. -/
def wienerStaysWrong : ChangeSpec := { name := "wienerStays", fn := fun _ => fun
  | [d1, d2, d3] => { results := [.lit (.bool false)], args := [d1, d2, d3] }
  | _ => none }
def WienerStaysWrongFalsely : Prop := wienerStaysRow.holds Try.pinned (OpenSpec.ofChange wienerStaysWrong)

/- THE SECOND FORM. 'bulk': how many values and letters a reading holds, each counted each time it is reached (what is shared counts as often as it is met; a slice's spare places count too). A statement '..UptoSaid' is the law's where the arguments, and the package variables that the reading takes, are together of bulk at most 1048576: NARROWER than '..Said'. Prove '..Said' where nothing that the law and all that it calls make is longer than what came in: it says more and counts as full. Else prove '..UptoSaid'. A law counts once. -/
mutual
def uptoBulk {H : Type} : DataW H → Nat
  | .lit (.string bytes) => bytes.length + 1
  | .lit _ => 1
  | .nil => 1
  | .ptr d => uptoBulk d + 1
  | .slice elems spare => uptoBulkAll elems + uptoBulkAll spare + 1
  | .agg parts => uptoBulkAll parts + 1
  | .iface _ d => uptoBulk d + 1
  | .map entries => uptoBulkEntries entries + 1
  | .held _ => 1
def uptoBulkAll {H : Type} : List (DataW H) → Nat
  | [] => 0
  | d :: r => uptoBulk d + uptoBulkAll r
def uptoBulkEntries {H : Type} : List (Lit × DataW H) → Nat
  | [] => 0
  | x :: r => uptoBulkEntry x + uptoBulkEntries r
def uptoBulkEntry {H : Type} : Lit × DataW H → Nat
  | (.string bytes, d) => bytes.length + uptoBulk d + 1
  | (_, d) => uptoBulk d + 1
 end
def uptoSmall : (H : Type) → List (DataW H) → Bool := fun _ ds => decide (uptoBulkAll ds ≤ 1048576)
def OpenSpec.upto (s : _root_.Go.ChangeSpec) : _root_.Go.OpenSpec := { _root_.Go.OpenSpec.ofChange s with cond := some uptoSmall }

/-- 'zoetropelaw24.WienerTaps', WHERE WHAT IT READS IS OF BULK AT MOST 1048576: true; the input reads as it did. -/
def wienerTapsUptoRow : OpenClaim := { program := "ytfghnhhhlckafaa", sum := "348119747a3a07619389aded48cba538cc1242a2bc2e24f1b8ff6f9b397fd135", func := "zoetrope/zoetropelaw24.WienerTaps", spec := "wienerTaps", unfollowed := true, recurses := true, apart := false, narrowed := true }
def WienerTapsUptoSaid : Prop := wienerTapsUptoRow.holds Try.pinned (OpenSpec.upto wienerTapsSpec)

/-- 'zoetropelaw24.WienerPlanes', WHERE WHAT IT READS IS OF BULK AT MOST 1048576: true; the input reads as it did. -/
def wienerPlanesUptoRow : OpenClaim := { program := "ytfghnhhhlckafaa", sum := "348119747a3a07619389aded48cba538cc1242a2bc2e24f1b8ff6f9b397fd135", func := "zoetrope/zoetropelaw24.WienerPlanes", spec := "wienerPlanes", unfollowed := true, recurses := true, apart := false, narrowed := true }
def WienerPlanesUptoSaid : Prop := wienerPlanesUptoRow.holds Try.pinned (OpenSpec.upto wienerPlanesSpec)

/-- 'zoetropelaw24.WienerNear', WHERE WHAT IT READS IS OF BULK AT MOST 1048576: true; the input reads as it did. -/
def wienerNearUptoRow : OpenClaim := { program := "ytfghnhhhlckafaa", sum := "348119747a3a07619389aded48cba538cc1242a2bc2e24f1b8ff6f9b397fd135", func := "zoetrope/zoetropelaw24.WienerNear", spec := "wienerNear", unfollowed := true, recurses := true, apart := false, narrowed := true }
def WienerNearUptoSaid : Prop := wienerNearUptoRow.holds Try.pinned (OpenSpec.upto wienerNearSpec)

/-- 'zoetropelaw24.WienerSquares', WHERE WHAT IT READS IS OF BULK AT MOST 1048576: true; the input reads as it did. -/
def wienerSquaresUptoRow : OpenClaim := { program := "ytfghnhhhlckafaa", sum := "348119747a3a07619389aded48cba538cc1242a2bc2e24f1b8ff6f9b397fd135", func := "zoetrope/zoetropelaw24.WienerSquares", spec := "wienerSquares", unfollowed := true, recurses := true, apart := false, narrowed := true }
def WienerSquaresUptoSaid : Prop := wienerSquaresUptoRow.holds Try.pinned (OpenSpec.upto wienerSquaresSpec)

/-- 'zoetropelaw24.WienerNames', WHERE WHAT IT READS IS OF BULK AT MOST 1048576: true; the input reads as it did. -/
def wienerNamesUptoRow : OpenClaim := { program := "ytfghnhhhlckafaa", sum := "348119747a3a07619389aded48cba538cc1242a2bc2e24f1b8ff6f9b397fd135", func := "zoetrope/zoetropelaw24.WienerNames", spec := "wienerNames", unfollowed := true, recurses := true, apart := false, narrowed := true }
def WienerNamesUptoSaid : Prop := wienerNamesUptoRow.holds Try.pinned (OpenSpec.upto wienerNamesSpec)

/-- 'zoetropelaw24.WienerStays', WHERE WHAT IT READS IS OF BULK AT MOST 1048576: true; the input reads as it did. -/
def wienerStaysUptoRow : OpenClaim := { program := "ytfghnhhhlckafaa", sum := "348119747a3a07619389aded48cba538cc1242a2bc2e24f1b8ff6f9b397fd135", func := "zoetrope/zoetropelaw24.WienerStays", spec := "wienerStays", unfollowed := true, recurses := true, apart := false, narrowed := true }
def WienerStaysUptoSaid : Prop := wienerStaysUptoRow.holds Try.pinned (OpenSpec.upto wienerStaysSpec)

end Rows
end Go.Proofs.Ytfghnhhhlckafaa
