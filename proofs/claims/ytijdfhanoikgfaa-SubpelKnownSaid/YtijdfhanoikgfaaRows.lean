/-
  No cell of these rows narrows 'for every input' (looked for: loops, veiled, ifaces, maps, wideKeys, modest, calm, conditions, laid).
  DERIVED. THE GIVEN ROWS OF THIS SEAT. 9 by the template 'for every input the law returns true; each argument reads behind the call as it read before'; 0 by the template 'total and deterministic' (their statements: YtijdfhanoikgfaaTotals.lean).
  GIVEN WITH THE SEED: the statements are not yours to turn. If you find one false, say at which input.
  Laid BY PROGRAM, IN A SANDBOX (cutbox-rows.mjs): the forced cells as the released guide's own fill.sh prints them over the translation cab872f9750c0956… (all of the seat's roots in one cut). By AI agents, Wed Nov 11 2026. No macro, syntax, notation, axiom, sorry.
-/
import Derived.Test.YtijdfhanoikgfaaChecked
import GoSem.Claim
import GoSem.ClaimJoined
import GoSem.ClaimMapViews
import Derived.JoinedTies
import Derived.KernelRfl
namespace Go.Proofs.Ytijdfhanoikgfaa
/- THE CELL 'sum', in the pinned program and in every row, IS THE sha256 OF THE DUMP (.gsa) THAT YtijdfhanoikgfaaProg.lean LOADS. Nothing in Lean hashes anything: it is a label: what it is worth is what the hold of that sum in a sandbox is worth. -/
noncomputable def Try.pinned : Pinned := { name := "ytijdfhanoikgfaa", sum := "cab872f9750c0956bfc50682ceb351c433bbf5e7a8176e2b891274e928cf8a03", checked := Try.checked }
namespace Rows
def none {H : Type} : Left H := { results := [], args := [] }

/-- 'zoetropelaw14.SubpelTaps': WHATEVER THE INPUT: true; the input reads as it did. -/
def subpelTapsSpec : ChangeSpec := { name := "subpelTaps", fn := fun _ => fun
  | [d1, d2] => { results := [.lit (.bool true)], args := [d1, d2] }
  | _ => none }
def subpelTapsRow : OpenClaim := { program := "ytijdfhanoikgfaa", sum := "cab872f9750c0956bfc50682ceb351c433bbf5e7a8176e2b891274e928cf8a03", func := "zoetrope/zoetropelaw14.SubpelTaps", spec := "subpelTaps", unfollowed := true, recurses := true, apart := false }
def SubpelTapsSaid : Prop := subpelTapsRow.holds Try.pinned (OpenSpec.ofChange subpelTapsSpec)

/-- ITS FALSE NEIGHBOUR: 'it returns false'. Refute it at one input. -/
def subpelTapsWrong : ChangeSpec := { name := "subpelTaps", fn := fun _ => fun
  | [d1, d2] => { results := [.lit (.bool false)], args := [d1, d2] }
  | _ => none }
def SubpelTapsWrongFalsely : Prop := subpelTapsRow.holds Try.pinned (OpenSpec.ofChange subpelTapsWrong)

/-- 'zoetropelaw14.SubpelFetches': WHATEVER THE INPUT: true; the input reads as it did. -/
def subpelFetchesSpec : ChangeSpec := { name := "subpelFetches", fn := fun _ => fun
  | [d1, d2] => { results := [.lit (.bool true)], args := [d1, d2] }
  | _ => none }
def subpelFetchesRow : OpenClaim := { program := "ytijdfhanoikgfaa", sum := "cab872f9750c0956bfc50682ceb351c433bbf5e7a8176e2b891274e928cf8a03", func := "zoetrope/zoetropelaw14.SubpelFetches", spec := "subpelFetches", unfollowed := true, recurses := true, apart := false }
def SubpelFetchesSaid : Prop := subpelFetchesRow.holds Try.pinned (OpenSpec.ofChange subpelFetchesSpec)

/-- ITS FALSE NEIGHBOUR: 'it returns false'. Refute it at one input. -/
def subpelFetchesWrong : ChangeSpec := { name := "subpelFetches", fn := fun _ => fun
  | [d1, d2] => { results := [.lit (.bool false)], args := [d1, d2] }
  | _ => none }
def SubpelFetchesWrongFalsely : Prop := subpelFetchesRow.holds Try.pinned (OpenSpec.ofChange subpelFetchesWrong)

/-- 'zoetropelaw14.SubpelKinds': WHATEVER THE INPUT: true; the input reads as it did. -/
def subpelKindsSpec : ChangeSpec := { name := "subpelKinds", fn := fun _ => fun
  | [d1, d2, d3] => { results := [.lit (.bool true)], args := [d1, d2, d3] }
  | _ => none }
def subpelKindsRow : OpenClaim := { program := "ytijdfhanoikgfaa", sum := "cab872f9750c0956bfc50682ceb351c433bbf5e7a8176e2b891274e928cf8a03", func := "zoetrope/zoetropelaw14.SubpelKinds", spec := "subpelKinds", unfollowed := true, recurses := true, apart := false }
def SubpelKindsSaid : Prop := subpelKindsRow.holds Try.pinned (OpenSpec.ofChange subpelKindsSpec)

/-- ITS FALSE NEIGHBOUR: 'it returns false'. Refute it at one input. -/
def subpelKindsWrong : ChangeSpec := { name := "subpelKinds", fn := fun _ => fun
  | [d1, d2, d3] => { results := [.lit (.bool false)], args := [d1, d2, d3] }
  | _ => none }
def SubpelKindsWrongFalsely : Prop := subpelKindsRow.holds Try.pinned (OpenSpec.ofChange subpelKindsWrong)

/-- 'zoetropelaw14.SubpelTurned': WHATEVER THE INPUT: true; the input reads as it did. -/
def subpelTurnedSpec : ChangeSpec := { name := "subpelTurned", fn := fun _ => fun
  | [d1, d2] => { results := [.lit (.bool true)], args := [d1, d2] }
  | _ => none }
def subpelTurnedRow : OpenClaim := { program := "ytijdfhanoikgfaa", sum := "cab872f9750c0956bfc50682ceb351c433bbf5e7a8176e2b891274e928cf8a03", func := "zoetrope/zoetropelaw14.SubpelTurned", spec := "subpelTurned", unfollowed := true, recurses := true, apart := false }
def SubpelTurnedSaid : Prop := subpelTurnedRow.holds Try.pinned (OpenSpec.ofChange subpelTurnedSpec)

/-- ITS FALSE NEIGHBOUR: 'it returns false'. Refute it at one input. -/
def subpelTurnedWrong : ChangeSpec := { name := "subpelTurned", fn := fun _ => fun
  | [d1, d2] => { results := [.lit (.bool false)], args := [d1, d2] }
  | _ => none }
def SubpelTurnedWrongFalsely : Prop := subpelTurnedRow.holds Try.pinned (OpenSpec.ofChange subpelTurnedWrong)

/-- 'zoetropelaw14.SubpelParts': WHATEVER THE INPUT: true; the input reads as it did. -/
def subpelPartsSpec : ChangeSpec := { name := "subpelParts", fn := fun _ => fun
  | [d1, d2, d3] => { results := [.lit (.bool true)], args := [d1, d2, d3] }
  | _ => none }
def subpelPartsRow : OpenClaim := { program := "ytijdfhanoikgfaa", sum := "cab872f9750c0956bfc50682ceb351c433bbf5e7a8176e2b891274e928cf8a03", func := "zoetrope/zoetropelaw14.SubpelParts", spec := "subpelParts", unfollowed := true, recurses := true, apart := false }
def SubpelPartsSaid : Prop := subpelPartsRow.holds Try.pinned (OpenSpec.ofChange subpelPartsSpec)

/-- ITS FALSE NEIGHBOUR: 'it returns false'. Refute it at one input. -/
def subpelPartsWrong : ChangeSpec := { name := "subpelParts", fn := fun _ => fun
  | [d1, d2, d3] => { results := [.lit (.bool false)], args := [d1, d2, d3] }
  | _ => none }
def SubpelPartsWrongFalsely : Prop := subpelPartsRow.holds Try.pinned (OpenSpec.ofChange subpelPartsWrong)

/-- 'zoetropelaw14.SubpelBetween': WHATEVER THE INPUT: true; the input reads as it did. -/
def subpelBetweenSpec : ChangeSpec := { name := "subpelBetween", fn := fun _ => fun
  | [d1, d2] => { results := [.lit (.bool true)], args := [d1, d2] }
  | _ => none }
def subpelBetweenRow : OpenClaim := { program := "ytijdfhanoikgfaa", sum := "cab872f9750c0956bfc50682ceb351c433bbf5e7a8176e2b891274e928cf8a03", func := "zoetrope/zoetropelaw14.SubpelBetween", spec := "subpelBetween", unfollowed := true, recurses := true, apart := false }
def SubpelBetweenSaid : Prop := subpelBetweenRow.holds Try.pinned (OpenSpec.ofChange subpelBetweenSpec)

/-- ITS FALSE NEIGHBOUR: 'it returns false'. Refute it at one input. -/
def subpelBetweenWrong : ChangeSpec := { name := "subpelBetween", fn := fun _ => fun
  | [d1, d2] => { results := [.lit (.bool false)], args := [d1, d2] }
  | _ => none }
def SubpelBetweenWrongFalsely : Prop := subpelBetweenRow.holds Try.pinned (OpenSpec.ofChange subpelBetweenWrong)

/-- 'zoetropelaw14.SubpelKnown': WHATEVER THE INPUT: true; the input reads as it did. -/
def subpelKnownSpec : ChangeSpec := { name := "subpelKnown", fn := fun _ => fun
  | [] => { results := [.lit (.bool true)], args := [] }
  | _ => none }
def subpelKnownRow : OpenClaim := { program := "ytijdfhanoikgfaa", sum := "cab872f9750c0956bfc50682ceb351c433bbf5e7a8176e2b891274e928cf8a03", func := "zoetrope/zoetropelaw14.SubpelKnown", spec := "subpelKnown", unfollowed := true, recurses := true, apart := false }
def SubpelKnownSaid : Prop := subpelKnownRow.holds Try.pinned (OpenSpec.ofChange subpelKnownSpec)

/-- ITS FALSE NEIGHBOUR: 'it returns false'. Refute it at one input. -/
def subpelKnownWrong : ChangeSpec := { name := "subpelKnown", fn := fun _ => fun
  | [] => { results := [.lit (.bool false)], args := [] }
  | _ => none }
def SubpelKnownWrongFalsely : Prop := subpelKnownRow.holds Try.pinned (OpenSpec.ofChange subpelKnownWrong)

/-- 'zoetropelaw14.SubpelWhole': WHATEVER THE INPUT: true; the input reads as it did. -/
def subpelWholeSpec : ChangeSpec := { name := "subpelWhole", fn := fun _ => fun
  | [d1, d2] => { results := [.lit (.bool true)], args := [d1, d2] }
  | _ => none }
def subpelWholeRow : OpenClaim := { program := "ytijdfhanoikgfaa", sum := "cab872f9750c0956bfc50682ceb351c433bbf5e7a8176e2b891274e928cf8a03", func := "zoetrope/zoetropelaw14.SubpelWhole", spec := "subpelWhole", unfollowed := true, recurses := true, apart := false }
def SubpelWholeSaid : Prop := subpelWholeRow.holds Try.pinned (OpenSpec.ofChange subpelWholeSpec)

/-- ITS FALSE NEIGHBOUR: 'it returns false'. Refute it at one input. -/
def subpelWholeWrong : ChangeSpec := { name := "subpelWhole", fn := fun _ => fun
  | [d1, d2] => { results := [.lit (.bool false)], args := [d1, d2] }
  | _ => none }
def SubpelWholeWrongFalsely : Prop := subpelWholeRow.holds Try.pinned (OpenSpec.ofChange subpelWholeWrong)

/-- 'zoetropelaw14.SubpelFlat': WHATEVER THE INPUT: true; the input reads as it did. -/
def subpelFlatSpec : ChangeSpec := { name := "subpelFlat", fn := fun _ => fun
  | [d1, d2, d3] => { results := [.lit (.bool true)], args := [d1, d2, d3] }
  | _ => none }
def subpelFlatRow : OpenClaim := { program := "ytijdfhanoikgfaa", sum := "cab872f9750c0956bfc50682ceb351c433bbf5e7a8176e2b891274e928cf8a03", func := "zoetrope/zoetropelaw14.SubpelFlat", spec := "subpelFlat", unfollowed := true, recurses := true, apart := false }
def SubpelFlatSaid : Prop := subpelFlatRow.holds Try.pinned (OpenSpec.ofChange subpelFlatSpec)

/-- ITS FALSE NEIGHBOUR: 'it returns false'. Refute it at one input. -/
def subpelFlatWrong : ChangeSpec := { name := "subpelFlat", fn := fun _ => fun
  | [d1, d2, d3] => { results := [.lit (.bool false)], args := [d1, d2, d3] }
  | _ => none }
def SubpelFlatWrongFalsely : Prop := subpelFlatRow.holds Try.pinned (OpenSpec.ofChange subpelFlatWrong)

/- THE SECOND FORM. 'bulk': how many values and letters a reading holds, each counted each time it is reached (what is shared counts as often as it is met; a slice's spare places count too). A statement '..UptoSaid' is the law's where the arguments, and the package variables that the reading takes, are together of bulk at most 1048576: NARROWER than '..Said'. Prove '..Said' where nothing that the law and all that it calls make is longer than what came in: it says more and counts as full. Else prove '..UptoSaid'. A law counts once. -/
mutual
def uptoBulk {H : Type} : DataW H → Nat
  | .lit (.string bytes) => bytes.length + 1
  | .lit _ => 1
  | .nil => 1
  | .ptr d => uptoBulk d + 1
  | .slice elems spare => uptoBulkAll elems + uptoBulkAll spare + 1
  | .agg parts => uptoBulkAll parts + 1
  | .iface _ d => uptoBulk d + 1
  | .map entries => uptoBulkEntries entries + 1
  | .held _ => 1
def uptoBulkAll {H : Type} : List (DataW H) → Nat
  | [] => 0
  | d :: r => uptoBulk d + uptoBulkAll r
def uptoBulkEntries {H : Type} : List (Lit × DataW H) → Nat
  | [] => 0
  | x :: r => uptoBulkEntry x + uptoBulkEntries r
def uptoBulkEntry {H : Type} : Lit × DataW H → Nat
  | (.string bytes, d) => bytes.length + uptoBulk d + 1
  | (_, d) => uptoBulk d + 1
 end
def uptoSmall : (H : Type) → List (DataW H) → Bool := fun _ ds => decide (uptoBulkAll ds ≤ 1048576)
def OpenSpec.upto (s : _root_.Go.ChangeSpec) : _root_.Go.OpenSpec := { _root_.Go.OpenSpec.ofChange s with cond := some uptoSmall }

/-- 'zoetropelaw14.SubpelTaps', WHERE WHAT IT READS IS OF BULK AT MOST 1048576: true; the input reads as it did. -/
def subpelTapsUptoRow : OpenClaim := { program := "ytijdfhanoikgfaa", sum := "cab872f9750c0956bfc50682ceb351c433bbf5e7a8176e2b891274e928cf8a03", func := "zoetrope/zoetropelaw14.SubpelTaps", spec := "subpelTaps", unfollowed := true, recurses := true, apart := false, narrowed := true }
def SubpelTapsUptoSaid : Prop := subpelTapsUptoRow.holds Try.pinned (OpenSpec.upto subpelTapsSpec)

/-- 'zoetropelaw14.SubpelFetches', WHERE WHAT IT READS IS OF BULK AT MOST 1048576: true; the input reads as it did. -/
def subpelFetchesUptoRow : OpenClaim := { program := "ytijdfhanoikgfaa", sum := "cab872f9750c0956bfc50682ceb351c433bbf5e7a8176e2b891274e928cf8a03", func := "zoetrope/zoetropelaw14.SubpelFetches", spec := "subpelFetches", unfollowed := true, recurses := true, apart := false, narrowed := true }
def SubpelFetchesUptoSaid : Prop := subpelFetchesUptoRow.holds Try.pinned (OpenSpec.upto subpelFetchesSpec)

/-- 'zoetropelaw14.SubpelKinds', WHERE WHAT IT READS IS OF BULK AT MOST 1048576: true; the input reads as it did. -/
def subpelKindsUptoRow : OpenClaim := { program := "ytijdfhanoikgfaa", sum := "cab872f9750c0956bfc50682ceb351c433bbf5e7a8176e2b891274e928cf8a03", func := "zoetrope/zoetropelaw14.SubpelKinds", spec := "subpelKinds", unfollowed := true, recurses := true, apart := false, narrowed := true }
def SubpelKindsUptoSaid : Prop := subpelKindsUptoRow.holds Try.pinned (OpenSpec.upto subpelKindsSpec)

/-- 'zoetropelaw14.SubpelTurned', WHERE WHAT IT READS IS OF BULK AT MOST 1048576: true; the input reads as it did. -/
def subpelTurnedUptoRow : OpenClaim := { program := "ytijdfhanoikgfaa", sum := "cab872f9750c0956bfc50682ceb351c433bbf5e7a8176e2b891274e928cf8a03", func := "zoetrope/zoetropelaw14.SubpelTurned", spec := "subpelTurned", unfollowed := true, recurses := true, apart := false, narrowed := true }
def SubpelTurnedUptoSaid : Prop := subpelTurnedUptoRow.holds Try.pinned (OpenSpec.upto subpelTurnedSpec)

/-- 'zoetropelaw14.SubpelParts', WHERE WHAT IT READS IS OF BULK AT MOST 1048576: true; the input reads as it did. -/
def subpelPartsUptoRow : OpenClaim := { program := "ytijdfhanoikgfaa", sum := "cab872f9750c0956bfc50682ceb351c433bbf5e7a8176e2b891274e928cf8a03", func := "zoetrope/zoetropelaw14.SubpelParts", spec := "subpelParts", unfollowed := true, recurses := true, apart := false, narrowed := true }
def SubpelPartsUptoSaid : Prop := subpelPartsUptoRow.holds Try.pinned (OpenSpec.upto subpelPartsSpec)

/-- 'zoetropelaw14.SubpelBetween', WHERE WHAT IT READS IS OF BULK AT MOST 1048576: true; the input reads as it did. -/
def subpelBetweenUptoRow : OpenClaim := { program := "ytijdfhanoikgfaa", sum := "cab872f9750c0956bfc50682ceb351c433bbf5e7a8176e2b891274e928cf8a03", func := "zoetrope/zoetropelaw14.SubpelBetween", spec := "subpelBetween", unfollowed := true, recurses := true, apart := false, narrowed := true }
def SubpelBetweenUptoSaid : Prop := subpelBetweenUptoRow.holds Try.pinned (OpenSpec.upto subpelBetweenSpec)

/-- 'zoetropelaw14.SubpelKnown', WHERE WHAT IT READS IS OF BULK AT MOST 1048576: true; the input reads as it did. -/
def subpelKnownUptoRow : OpenClaim := { program := "ytijdfhanoikgfaa", sum := "cab872f9750c0956bfc50682ceb351c433bbf5e7a8176e2b891274e928cf8a03", func := "zoetrope/zoetropelaw14.SubpelKnown", spec := "subpelKnown", unfollowed := true, recurses := true, apart := false, narrowed := true }
def SubpelKnownUptoSaid : Prop := subpelKnownUptoRow.holds Try.pinned (OpenSpec.upto subpelKnownSpec)

/-- 'zoetropelaw14.SubpelWhole', WHERE WHAT IT READS IS OF BULK AT MOST 1048576: true; the input reads as it did. -/
def subpelWholeUptoRow : OpenClaim := { program := "ytijdfhanoikgfaa", sum := "cab872f9750c0956bfc50682ceb351c433bbf5e7a8176e2b891274e928cf8a03", func := "zoetrope/zoetropelaw14.SubpelWhole", spec := "subpelWhole", unfollowed := true, recurses := true, apart := false, narrowed := true }
def SubpelWholeUptoSaid : Prop := subpelWholeUptoRow.holds Try.pinned (OpenSpec.upto subpelWholeSpec)

/-- 'zoetropelaw14.SubpelFlat', WHERE WHAT IT READS IS OF BULK AT MOST 1048576: true; the input reads as it did. -/
def subpelFlatUptoRow : OpenClaim := { program := "ytijdfhanoikgfaa", sum := "cab872f9750c0956bfc50682ceb351c433bbf5e7a8176e2b891274e928cf8a03", func := "zoetrope/zoetropelaw14.SubpelFlat", spec := "subpelFlat", unfollowed := true, recurses := true, apart := false, narrowed := true }
def SubpelFlatUptoSaid : Prop := subpelFlatUptoRow.holds Try.pinned (OpenSpec.upto subpelFlatSpec)

end Rows
end Go.Proofs.Ytijdfhanoikgfaa
