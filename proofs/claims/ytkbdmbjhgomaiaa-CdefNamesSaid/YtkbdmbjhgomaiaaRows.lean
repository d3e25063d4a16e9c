/-
  No cell of these rows narrows 'for every input' (looked for: loops, veiled, ifaces, maps, wideKeys, modest, calm, conditions, laid).
  DERIVED. THE GIVEN ROWS OF THIS SEAT. 8 by the template 'for every input the law returns true; each argument reads behind the call as it read before'; 0 by the template 'total and deterministic' (their statements: YtkbdmbjhgomaiaaTotals.lean).
  GIVEN WITH THE SEED: the statements are not yours to turn. If you find one false, say at which input.
  Laid BY PROGRAM, IN A SANDBOX (cutbox-rows.mjs): the forced cells as the released guide's own fill.sh prints them over the translation 3e5a99bc95512c22… (all of the seat's roots in one cut). By AI agents, Wed Nov 11 2026. No macro, syntax, notation, axiom, sorry.
-/
import Derived.Test.YtkbdmbjhgomaiaaChecked
import GoSem.Claim
import GoSem.ClaimJoined
import GoSem.ClaimMapViews
import Derived.JoinedTies
import Derived.KernelRfl
namespace Go.Proofs.Ytkbdmbjhgomaiaa
/- THE CELL 'sum', in the pinned program and in every row, IS THE sha256 OF THE DUMP (.gsa) THAT YtkbdmbjhgomaiaaProg.lean LOADS. Nothing in Lean hashes anything: it is a label: what it is worth is what the hold of that sum in a sandbox is worth. -/
noncomputable def Try.pinned : Pinned := { name := "ytkbdmbjhgomaiaa", sum := "3e5a99bc95512c22b7805bf9bf7a80d16135cbe5711d6eb156b2b08b4d62479d", checked := Try.checked }
namespace Rows
def none {H : Type} : Left H := { results := [], args := [] }

/-- 'zoetropelaw23.CdefDirections': WHATEVER THE INPUT: true; the input reads as it did. -/
def cdefDirectionsSpec : ChangeSpec := { name := "cdefDirections", fn := fun _ => fun
  | [d1, d2] => { results := [.lit (.bool true)], args := [d1, d2] }
  | _ => none }
def cdefDirectionsRow : OpenClaim := { program := "ytkbdmbjhgomaiaa", sum := "3e5a99bc95512c22b7805bf9bf7a80d16135cbe5711d6eb156b2b08b4d62479d", func := "zoetrope/zoetropelaw23.CdefDirections", spec := "cdefDirections", apart := false }
def CdefDirectionsSaid : Prop := cdefDirectionsRow.holds Try.pinned (OpenSpec.ofChange cdefDirectionsSpec)

/-- ITS FALSE NEIGHBOUR: 'it returns false'. Refute it at one input. -/
def cdefDirectionsWrong : ChangeSpec := { name := "cdefDirections", fn := fun _ => fun
  | [d1, d2] => { results := [.lit (.bool false)], args := [d1, d2] }
  | _ => none }
def CdefDirectionsWrongFalsely : Prop := cdefDirectionsRow.holds Try.pinned (OpenSpec.ofChange cdefDirectionsWrong)

/-- 'zoetropelaw23.CdefBlocks': WHATEVER THE INPUT: true; the input reads as it did. -/
def cdefBlocksSpec : ChangeSpec := { name := "cdefBlocks", fn := fun _ => fun
  | [d1, d2, d3] => { results := [.lit (.bool true)], args := [d1, d2, d3] }
  | _ => none }
def cdefBlocksRow : OpenClaim := { program := "ytkbdmbjhgomaiaa", sum := "3e5a99bc95512c22b7805bf9bf7a80d16135cbe5711d6eb156b2b08b4d62479d", func := "zoetrope/zoetropelaw23.CdefBlocks", spec := "cdefBlocks", apart := false }
def CdefBlocksSaid : Prop := cdefBlocksRow.holds Try.pinned (OpenSpec.ofChange cdefBlocksSpec)

/-- ITS FALSE NEIGHBOUR: 'it returns false'. Refute it at one input. -/
def cdefBlocksWrong : ChangeSpec := { name := "cdefBlocks", fn := fun _ => fun
  | [d1, d2, d3] => { results := [.lit (.bool false)], args := [d1, d2, d3] }
  | _ => none }
def CdefBlocksWrongFalsely : Prop := cdefBlocksRow.holds Try.pinned (OpenSpec.ofChange cdefBlocksWrong)

/-- 'zoetropelaw23.CdefBetween': WHATEVER THE INPUT: true; the input reads as it did. -/
def cdefBetweenSpec : ChangeSpec := { name := "cdefBetween", fn := fun _ => fun
  | [d1, d2, d3] => { results := [.lit (.bool true)], args := [d1, d2, d3] }
  | _ => none }
def cdefBetweenRow : OpenClaim := { program := "ytkbdmbjhgomaiaa", sum := "3e5a99bc95512c22b7805bf9bf7a80d16135cbe5711d6eb156b2b08b4d62479d", func := "zoetrope/zoetropelaw23.CdefBetween", spec := "cdefBetween", apart := false }
def CdefBetweenSaid : Prop := cdefBetweenRow.holds Try.pinned (OpenSpec.ofChange cdefBetweenSpec)

/-- ITS FALSE NEIGHBOUR: 'it returns false'. Refute it at one input. -/
def cdefBetweenWrong : ChangeSpec := { name := "cdefBetween", fn := fun _ => fun
  | [d1, d2, d3] => { results := [.lit (.bool false)], args := [d1, d2, d3] }
  | _ => none }
def CdefBetweenWrongFalsely : Prop := cdefBetweenRow.holds Try.pinned (OpenSpec.ofChange cdefBetweenWrong)

/-- 'zoetropelaw23.CdefLimits': WHATEVER THE INPUT: true; the input reads as it did. -/
def cdefLimitsSpec : ChangeSpec := { name := "cdefLimits", fn := fun _ => fun
  | [d1, d2, d3] => { results := [.lit (.bool true)], args := [d1, d2, d3] }
  | _ => none }
def cdefLimitsRow : OpenClaim := { program := "ytkbdmbjhgomaiaa", sum := "3e5a99bc95512c22b7805bf9bf7a80d16135cbe5711d6eb156b2b08b4d62479d", func := "zoetrope/zoetropelaw23.CdefLimits", spec := "cdefLimits", apart := false }
def CdefLimitsSaid : Prop := cdefLimitsRow.holds Try.pinned (OpenSpec.ofChange cdefLimitsSpec)

/-- ITS FALSE NEIGHBOUR: 'it returns false'. Refute it at one input. -/
def cdefLimitsWrong : ChangeSpec := { name := "cdefLimits", fn := fun _ => fun
  | [d1, d2, d3] => { results := [.lit (.bool false)], args := [d1, d2, d3] }
  | _ => none }
def CdefLimitsWrongFalsely : Prop := cdefLimitsRow.holds Try.pinned (OpenSpec.ofChange cdefLimitsWrong)

/-- 'zoetropelaw23.CdefStripes': WHATEVER THE INPUT: true; the input reads as it did. -/
def cdefStripesSpec : ChangeSpec := { name := "cdefStripes", fn := fun _ => fun
  | [d1, d2] => { results := [.lit (.bool true)], args := [d1, d2] }
  | _ => none }
def cdefStripesRow : OpenClaim := { program := "ytkbdmbjhgomaiaa", sum := "3e5a99bc95512c22b7805bf9bf7a80d16135cbe5711d6eb156b2b08b4d62479d", func := "zoetrope/zoetropelaw23.CdefStripes", spec := "cdefStripes", apart := false }
def CdefStripesSaid : Prop := cdefStripesRow.holds Try.pinned (OpenSpec.ofChange cdefStripesSpec)

/-- ITS FALSE NEIGHBOUR: 'it returns false'. Refute it at one input. -/
def cdefStripesWrong : ChangeSpec := { name := "cdefStripes", fn := fun _ => fun
  | [d1, d2] => { results := [.lit (.bool false)], args := [d1, d2] }
  | _ => none }
def CdefStripesWrongFalsely : Prop := cdefStripesRow.holds Try.pinned (OpenSpec.ofChange cdefStripesWrong)

/-- 'zoetropelaw23.CdefFrames': WHATEVER THE INPUT: true; the input reads as it did. -/
def cdefFramesSpec : ChangeSpec := { name := "cdefFrames", fn := fun _ => fun
  | [d1, d2, d3] => { results := [.lit (.bool true)], args := [d1, d2, d3] }
  | _ => none }
def cdefFramesRow : OpenClaim := { program := "ytkbdmbjhgomaiaa", sum := "3e5a99bc95512c22b7805bf9bf7a80d16135cbe5711d6eb156b2b08b4d62479d", func := "zoetrope/zoetropelaw23.CdefFrames", spec := "cdefFrames", unfollowed := true, recurses := true, apart := false }
def CdefFramesSaid : Prop := cdefFramesRow.holds Try.pinned (OpenSpec.ofChange cdefFramesSpec)

/-- ITS FALSE NEIGHBOUR: 'it returns false'. Refute it at one input. -/
def cdefFramesWrong : ChangeSpec := { name := "cdefFrames", fn := fun _ => fun
  | [d1, d2, d3] => { results := [.lit (.bool false)], args := [d1, d2, d3] }
  | _ => none }
def CdefFramesWrongFalsely : Prop := cdefFramesRow.holds Try.pinned (OpenSpec.ofChange cdefFramesWrong)

/-- 'zoetropelaw23.CdefStays': WHATEVER THE INPUT: true; the input reads as it did. -/
def cdefStaysSpec : ChangeSpec := { name := "cdefStays", fn := fun _ => fun
  | [d1, d2, d3] => { results := [.lit (.bool true)], args := [d1, d2, d3] }
  | _ => none }
def cdefStaysRow : OpenClaim := { program := "ytkbdmbjhgomaiaa", sum := "3e5a99bc95512c22b7805bf9bf7a80d16135cbe5711d6eb156b2b08b4d62479d", func := "zoetrope/zoetropelaw23.CdefStays", spec := "cdefStays", unfollowed := true, recurses := true, apart := false }
def CdefStaysSaid : Prop := cdefStaysRow.holds Try.pinned (OpenSpec.ofChange cdefStaysSpec)

/-- ITS FALSE NEIGHBOUR: 'it returns false'. Refute it at one input. -/
def cdefStaysWrong : ChangeSpec := { name := "cdefStays", fn := fun _ => fun
  | [d1, d2, d3] => { results := [.lit (.bool false)], args := [d1, d2, d3] }
  | _ => none }
def CdefStaysWrongFalsely : Prop := cdefStaysRow.holds Try.pinned (OpenSpec.ofChange cdefStaysWrong)

/-- 'zoetropelaw23.CdefNames': WHATEVER THE INPUT: true; the input reads as it did. -/
def cdefNamesSpec : ChangeSpec := { name := "cdefNames", fn := fun _ => fun
  | [] => { results := [.lit (.bool true)], args := [] }
  | _ => none }
def cdefNamesRow : OpenClaim := { program := "ytkbdmbjhgomaiaa", sum := "3e5a99bc95512c22b7805bf9bf7a80d16135cbe5711d6eb156b2b08b4d62479d", func := "zoetrope/zoetropelaw23.CdefNames", spec := "cdefNames", unfollowed := true, recurses := true, apart := false }
def CdefNamesSaid : Prop := cdefNamesRow.holds Try.pinned (OpenSpec.ofChange cdefNamesSpec)

/-- ITS FALSE NEIGHBOUR: 'it returns false'. Refute it at one input. -/
def cdefNamesWrong : ChangeSpec := { name := "cdefNames", fn := fun _ => fun
  | [] => { results := [.lit (.bool false)], args := [] }
  | _ => none }
def CdefNamesWrongFalsely : Prop := cdefNamesRow.holds Try.pinned (OpenSpec.ofChange cdefNamesWrong)

/- THE SECOND FORM. 'bulk': how many values and letters a reading holds, each counted each time it is reached (what is shared counts as often as it is met; a slice's spare places count too). A statement '..UptoSaid' is the law's where the arguments, and the package variables that the reading takes, are together of bulk at most 1048576: NARROWER than '..Said'. Prove '..Said' where nothing that the law and all that it calls make is longer than what came in: it says more and counts as full. Else prove '..UptoSaid'. A law counts once. -/
mutual
def uptoBulk {H : Type} : DataW H → Nat
  | .lit (.string bytes) => bytes.length + 1
  | .lit _ => 1
  | .nil => 1
  | .ptr d => uptoBulk d + 1
  | .slice elems spare => uptoBulkAll elems + uptoBulkAll spare + 1
  | .agg parts => uptoBulkAll parts + 1
  | .iface _ d => uptoBulk d + 1
  | .map entries => uptoBulkEntries entries + 1
  | .held _ => 1
def uptoBulkAll {H : Type} : List (DataW H) → Nat
  | [] => 0
  | d :: r => uptoBulk d + uptoBulkAll r
def uptoBulkEntries {H : Type} : List (Lit × DataW H) → Nat
  | [] => 0
  | x :: r => uptoBulkEntry x + uptoBulkEntries r
def uptoBulkEntry {H : Type} : Lit × DataW H → Nat
  | (.string bytes, d) => bytes.length + uptoBulk d + 1
  | (_, d) => uptoBulk d + 1
 end
def uptoSmall : (H : Type) → List (DataW H) → Bool := fun _ ds => decide (uptoBulkAll ds ≤ 1048576)
def OpenSpec.upto (s : _root_.Go.ChangeSpec) : _root_.Go.OpenSpec := { _root_.Go.OpenSpec.ofChange s with cond := some uptoSmall }

/-- 'zoetropelaw23.CdefDirections', WHERE WHAT IT READS IS OF BULK AT MOST 1048576: true; the input reads as it did. -/
def cdefDirectionsUptoRow : OpenClaim := { program := "ytkbdmbjhgomaiaa", sum := "3e5a99bc95512c22b7805bf9bf7a80d16135cbe5711d6eb156b2b08b4d62479d", func := "zoetrope/zoetropelaw23.CdefDirections", spec := "cdefDirections", apart := false, narrowed := true }
def CdefDirectionsUptoSaid : Prop := cdefDirectionsUptoRow.holds Try.pinned (OpenSpec.upto cdefDirectionsSpec)

/-- 'zoetropelaw23.CdefBlocks', WHERE WHAT IT READS IS OF BULK AT MOST 1048576: true; the input reads as it did. -/
def cdefBlocksUptoRow : OpenClaim := { program := "ytkbdmbjhgomaiaa", sum := "3e5a99bc95512c22b7805bf9bf7a80d16135cbe5711d6eb156b2b08b4d62479d", func := "zoetrope/zoetropelaw23.CdefBlocks", spec := "cdefBlocks", apart := false, narrowed := true }
def CdefBlocksUptoSaid : Prop := cdefBlocksUptoRow.holds Try.pinned (OpenSpec.upto cdefBlocksSpec)

/-- 'zoetropelaw23.CdefBetween', WHERE WHAT IT READS IS OF BULK AT MOST 1048576: true; the input reads as it did. -/
def cdefBetweenUptoRow : OpenClaim := { program := "ytkbdmbjhgomaiaa", sum := "3e5a99bc95512c22b7805bf9bf7a80d16135cbe5711d6eb156b2b08b4d62479d", func := "zoetrope/zoetropelaw23.CdefBetween", spec := "cdefBetween", apart := false, narrowed := true }
def CdefBetweenUptoSaid : Prop := cdefBetweenUptoRow.holds Try.pinned (OpenSpec.upto cdefBetweenSpec)

/-- 'zoetropelaw23.CdefLimits', WHERE WHAT IT READS IS OF BULK AT MOST 1048576: true; the input reads as it did. -/
def cdefLimitsUptoRow : OpenClaim := { program := "ytkbdmbjhgomaiaa", sum := "3e5a99bc95512c22b7805bf9bf7a80d16135cbe5711d6eb156b2b08b4d62479d", func := "zoetrope/zoetropelaw23.CdefLimits", spec := "cdefLimits", apart := false, narrowed := true }
def CdefLimitsUptoSaid : Prop := cdefLimitsUptoRow.holds Try.pinned (OpenSpec.upto cdefLimitsSpec)

/-- 'zoetropelaw23.CdefStripes', WHERE WHAT IT READS IS OF BULK AT MOST 1048576: true; the input reads as it did. -/
def cdefStripesUptoRow : OpenClaim := { program := "ytkbdmbjhgomaiaa", sum := "3e5a99bc95512c22b7805bf9bf7a80d16135cbe5711d6eb156b2b08b4d62479d", func := "zoetrope/zoetropelaw23.CdefStripes", spec := "cdefStripes", apart := false, narrowed := true }
def CdefStripesUptoSaid : Prop := cdefStripesUptoRow.holds Try.pinned (OpenSpec.upto cdefStripesSpec)

/-- 'zoetropelaw23.CdefFrames', WHERE WHAT IT READS IS OF BULK AT MOST 1048576: true; the input reads as it did. -/
def cdefFramesUptoRow : OpenClaim := { program := "ytkbdmbjhgomaiaa", sum := "3e5a99bc95512c22b7805bf9bf7a80d16135cbe5711d6eb156b2b08b4d62479d", func := "zoetrope/zoetropelaw23.CdefFrames", spec := "cdefFrames", unfollowed := true, recurses := true, apart := false, narrowed := true }
def CdefFramesUptoSaid : Prop := cdefFramesUptoRow.holds Try.pinned (OpenSpec.upto cdefFramesSpec)

/-- 'zoetropelaw23.CdefStays', WHERE WHAT IT READS IS OF BULK AT MOST 1048576: true; the input reads as it did. -/
def cdefStaysUptoRow : OpenClaim := { program := "ytkbdmbjhgomaiaa", sum := "3e5a99bc95512c22b7805bf9bf7a80d16135cbe5711d6eb156b2b08b4d62479d", func := "zoetrope/zoetropelaw23.CdefStays", spec := "cdefStays", unfollowed := true, recurses := true, apart := false, narrowed := true }
def CdefStaysUptoSaid : Prop := cdefStaysUptoRow.holds Try.pinned (OpenSpec.upto cdefStaysSpec)

/-- 'zoetropelaw23.CdefNames', WHERE WHAT IT READS IS OF BULK AT MOST 1048576: true; the input reads as it did. -/
def cdefNamesUptoRow : OpenClaim := { program := "ytkbdmbjhgomaiaa", sum := "3e5a99bc95512c22b7805bf9bf7a80d16135cbe5711d6eb156b2b08b4d62479d", func := "zoetrope/zoetropelaw23.CdefNames", spec := "cdefNames", unfollowed := true, recurses := true, apart := false, narrowed := true }
def CdefNamesUptoSaid : Prop := cdefNamesUptoRow.holds Try.pinned (OpenSpec.upto cdefNamesSpec)

end Rows
end Go.Proofs.Ytkbdmbjhgomaiaa
