/-
  No cell of these rows narrows 'for every input' (looked for: loops, veiled, ifaces, maps, wideKeys, modest, calm, conditions, laid).
  DERIVED. THE GIVEN ROWS OF THIS SEAT. 4 by the template 'for every input the law returns true; each argument reads behind the call as it read before'; 0 by the template 'total and deterministic' (their statements: YtbbfdebfhgdciaaTotals.lean).
  GIVEN WITH THE SEED: the statements are not yours to turn. If you find one false, say at which input.
  Laid BY PROGRAM, IN A SANDBOX (cutbox-rows.mjs): the forced cells as the released guide's own fill.sh prints them over the translation 1a40ef0cf50dd305… (all of the seat's roots in one cut). By AI agents, Wed Nov 11 2026. No macro, syntax, notation, axiom, sorry.
-/
import Derived.Test.YtbbfdebfhgdciaaChecked
import GoSem.Claim
import GoSem.ClaimJoined
import GoSem.ClaimMapViews
import Derived.JoinedTies
import Derived.KernelRfl
namespace Go.Proofs.Ytbbfdebfhgdciaa
/- THE CELL 'sum', in the pinned program and in every row, IS THE sha256 OF THE DUMP (.gsa) THAT YtbbfdebfhgdciaaProg.lean LOADS. Nothing in Lean hashes anything: it is a label: what it is worth is what the hold of that sum in a sandbox is worth. -/
noncomputable def Try.pinned : Pinned := { name := "ytbbfdebfhgdciaa", sum := "1a40ef0cf50dd3059cc43b712dabfdb770fefaba0d50780b8328d64bb78ac352", checked := Try.checked }
namespace Rows
def none {H : Type} : Left H := { results := [], args := [] }

/-- 'zoetropelaw25.ChainSteps': WHATEVER THE INPUT: true; the input reads as it did. -/
def chainStepsSpec : ChangeSpec := { name := "chainSteps", fn := fun _ => fun
  | [d1, d2, d3] => { results := [.lit (.bool true)], args := [d1, d2, d3] }
  | _ => none }
def chainStepsRow : OpenClaim := { program := "ytbbfdebfhgdciaa", sum := "1a40ef0cf50dd3059cc43b712dabfdb770fefaba0d50780b8328d64bb78ac352", func := "zoetrope/zoetropelaw25.ChainSteps", spec := "chainSteps", unfollowed := true, recurses := true, apart := false }
def ChainStepsSaid : Prop := chainStepsRow.holds Try.pinned (OpenSpec.ofChange chainStepsSpec)

/-- ITS FALSE NEIGHBOUR: 'it returns false'. Refute it at one input. -/
def chainStepsWrong : ChangeSpec := { name := "chainSteps", fn := fun _ => fun
  | [d1, d2, d3] => { results := [.lit (.bool false)], args := [d1, d2, d3] }
  | _ => none }
def ChainStepsWrongFalsely : Prop := chainStepsRow.holds Try.pinned (OpenSpec.ofChange chainStepsWrong)

/-- 'zoetropelaw25.ChainStill': WHATEVER THE INPUT: true; the input reads as it did. -/
def chainStillSpec : ChangeSpec := { name := "chainStill", fn := fun _ => fun
  | [d1, d2, d3] => { results := [.lit (.bool true)], args := [d1, d2, d3] }
  | _ => none }
def chainStillRow : OpenClaim := { program := "ytbbfdebfhgdciaa", sum := "1a40ef0cf50dd3059cc43b712dabfdb770fefaba0d50780b8328d64bb78ac352", func := "zoetrope/zoetropelaw25.ChainStill", spec := "chainStill", unfollowed := true, recurses := true, apart := false }
def ChainStillSaid : Prop := chainStillRow.holds Try.pinned (OpenSpec.ofChange chainStillSpec)

/-- ITS FALSE NEIGHBOUR: 'it returns false'. Refute it at one input. -/
def chainStillWrong : ChangeSpec := { name := "chainStill", fn := fun _ => fun
  | [d1, d2, d3] => { results := [.lit (.bool false)], args := [d1, d2, d3] }
  | _ => none }
def ChainStillWrongFalsely : Prop := chainStillRow.holds Try.pinned (OpenSpec.ofChange chainStillWrong)

/-- 'zoetropelaw25.ChainBrightness': WHATEVER THE INPUT: true; the input reads as it did. -/
def chainBrightnessSpec : ChangeSpec := { name := "chainBrightness", fn := fun _ => fun
  | [d1, d2, d3] => { results := [.lit (.bool true)], args := [d1, d2, d3] }
  | _ => none }
def chainBrightnessRow : OpenClaim := { program := "ytbbfdebfhgdciaa", sum := "1a40ef0cf50dd3059cc43b712dabfdb770fefaba0d50780b8328d64bb78ac352", func := "zoetrope/zoetropelaw25.ChainBrightness", spec := "chainBrightness", unfollowed := true, recurses := true, apart := false }
def ChainBrightnessSaid : Prop := chainBrightnessRow.holds Try.pinned (OpenSpec.ofChange chainBrightnessSpec)

/-- ITS FALSE NEIGHBOUR: 'it returns false'. Refute it at one input. -/
def chainBrightnessWrong : ChangeSpec := { name := "chainBrightness", fn := fun _ => fun
  | [d1, d2, d3] => { results := [.lit (.bool false)], args := [d1, d2, d3] }
  | _ => none }
def ChainBrightnessWrongFalsely : Prop := chainBrightnessRow.holds Try.pinned (OpenSpec.ofChange chainBrightnessWrong)

/-- 'zoetropelaw25.ChainKnown': WHATEVER THE INPUT: true; the input reads as it did. -/
def chainKnownSpec : ChangeSpec := { name := "chainKnown", fn := fun _ => fun
  | [] => { results := [.lit (.bool true)], args := [] }
  | _ => none }
def chainKnownRow : OpenClaim := { program := "ytbbfdebfhgdciaa", sum := "1a40ef0cf50dd3059cc43b712dabfdb770fefaba0d50780b8328d64bb78ac352", func := "zoetrope/zoetropelaw25.ChainKnown", spec := "chainKnown", unfollowed := true, recurses := true, apart := false }
def ChainKnownSaid : Prop := chainKnownRow.holds Try.pinned (OpenSpec.ofChange chainKnownSpec)

/-- ITS FALSE NEIGHBOUR: 'it returns false'. Refute it at one input. -/
def chainKnownWrong : ChangeSpec := { name := "chainKnown", fn := fun _ => fun
  | [] => { results := [.lit (.bool false)], args := [] }
  | _ => none }
def ChainKnownWrongFalsely : Prop := chainKnownRow.holds Try.pinned (OpenSpec.ofChange chainKnownWrong)

/- THE SECOND FORM. 'bulk': how many values and letters a reading holds, each counted each time it is reached (what is shared counts as often as it is met; a slice's spare places count too). A statement '..UptoSaid' is the law's where the arguments, and the package variables that the reading takes, are together of bulk at most 1048576: NARROWER than '..Said'. Prove '..Said' where nothing that the law and all that it calls make is longer than what came in: it says more and counts as full. Else prove '..UptoSaid'. A law counts once. -/
mutual
def uptoBulk {H : Type} : DataW H → Nat
  | .lit (.string bytes) => bytes.length + 1
  | .lit _ => 1
  | .nil => 1
  | .ptr d => uptoBulk d + 1
  | .slice elems spare => uptoBulkAll elems + uptoBulkAll spare + 1
  | .agg parts => uptoBulkAll parts + 1
  | .iface _ d => uptoBulk d + 1
  | .map entries => uptoBulkEntries entries + 1
  | .held _ => 1
def uptoBulkAll {H : Type} : List (DataW H) → Nat
  | [] => 0
  | d :: r => uptoBulk d + uptoBulkAll r
def uptoBulkEntries {H : Type} : List (Lit × DataW H) → Nat
  | [] => 0
  | x :: r => uptoBulkEntry x + uptoBulkEntries r
def uptoBulkEntry {H : Type} : Lit × DataW H → Nat
  | (.string bytes, d) => bytes.length + uptoBulk d + 1
  | (_, d) => uptoBulk d + 1
 end
def uptoSmall : (H : Type) → List (DataW H) → Bool := fun _ ds => decide (uptoBulkAll ds ≤ 1048576)
def OpenSpec.upto (s : _root_.Go.ChangeSpec) : _root_.Go.OpenSpec := { _root_.Go.OpenSpec.ofChange s with cond := some uptoSmall }

/-- 'zoetropelaw25.ChainSteps', WHERE WHAT IT READS IS OF BULK AT MOST 1048576: true; the input reads as it did. -/
def chainStepsUptoRow : OpenClaim := { program := "ytbbfdebfhgdciaa", sum := "1a40ef0cf50dd3059cc43b712dabfdb770fefaba0d50780b8328d64bb78ac352", func := "zoetrope/zoetropelaw25.ChainSteps", spec := "chainSteps", unfollowed := true, recurses := true, apart := false, narrowed := true }
def ChainStepsUptoSaid : Prop := chainStepsUptoRow.holds Try.pinned (OpenSpec.upto chainStepsSpec)

/-- 'zoetropelaw25.ChainStill', WHERE WHAT IT READS IS OF BULK AT MOST 1048576: true; the input reads as it did. -/
def chainStillUptoRow : OpenClaim := { program := "ytbbfdebfhgdciaa", sum := "1a40ef0cf50dd3059cc43b712dabfdb770fefaba0d50780b8328d64bb78ac352", func := "zoetrope/zoetropelaw25.ChainStill", spec := "chainStill", unfollowed := true, recurses := true, apart := false, narrowed := true }
def ChainStillUptoSaid : Prop := chainStillUptoRow.holds Try.pinned (OpenSpec.upto chainStillSpec)

/-- 'zoetropelaw25.ChainBrightness', WHERE WHAT IT READS IS OF BULK AT MOST 1048576: true; the input reads as it did. -/
def chainBrightnessUptoRow : OpenClaim := { program := "ytbbfdebfhgdciaa", sum := "1a40ef0cf50dd3059cc43b712dabfdb770fefaba0d50780b8328d64bb78ac352", func := "zoetrope/zoetropelaw25.ChainBrightness", spec := "chainBrightness", unfollowed := true, recurses := true, apart := false, narrowed := true }
def ChainBrightnessUptoSaid : Prop := chainBrightnessUptoRow.holds Try.pinned (OpenSpec.upto chainBrightnessSpec)

/-- 'zoetropelaw25.ChainKnown', WHERE WHAT IT READS IS OF BULK AT MOST 1048576: true; the input reads as it did. -/
def chainKnownUptoRow : OpenClaim := { program := "ytbbfdebfhgdciaa", sum := "1a40ef0cf50dd3059cc43b712dabfdb770fefaba0d50780b8328d64bb78ac352", func := "zoetrope/zoetropelaw25.ChainKnown", spec := "chainKnown", unfollowed := true, recurses := true, apart := false, narrowed := true }
def ChainKnownUptoSaid : Prop := chainKnownUptoRow.holds Try.pinned (OpenSpec.upto chainKnownSpec)

end Rows
end Go.Proofs.Ytbbfdebfhgdciaa
