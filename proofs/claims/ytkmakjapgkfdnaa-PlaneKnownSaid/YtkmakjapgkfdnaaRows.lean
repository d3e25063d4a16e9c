/-
  No cell of these rows narrows 'for every input' (looked for: loops, veiled, ifaces, maps, wideKeys, modest, calm, conditions, laid).
  DERIVED. THE GIVEN ROWS OF THIS SEAT. 7 by the template 'for every input the law returns true; each argument reads behind the call as it read before'; 0 by the template 'total and deterministic' (their statements: YtkmakjapgkfdnaaTotals.lean).
  GIVEN WITH THE SEED: the statements are not yours to turn. If you find one false, say at which input.
  Laid BY PROGRAM, IN A SANDBOX (cutbox-rows.mjs): the forced cells as the released guide's own fill.sh prints them over the translation 99a69665068e55fd… (all of the seat's roots in one cut). By AI agents, Wed Nov 11 2026. No macro, syntax, notation, axiom, sorry.
-/
import Derived.Test.YtkmakjapgkfdnaaChecked
import GoSem.Claim
import GoSem.ClaimJoined
import GoSem.ClaimMapViews
import Derived.JoinedTies
import Derived.KernelRfl
namespace Go.Proofs.Ytkmakjapgkfdnaa
/- THE CELL 'sum', in the pinned program and in every row, IS THE sha256 OF THE DUMP (.gsa) THAT YtkmakjapgkfdnaaProg.lean LOADS. Nothing in Lean hashes anything: it is a label: what it is worth is what the hold of that sum in a sandbox is worth. -/
noncomputable def Try.pinned : Pinned := { name := "ytkmakjapgkfdnaa", sum := "99a69665068e55fd3b252760511ce84a21fda1f8865bb7258fe8ec5c52cceabd", checked := Try.checked }
namespace Rows
def none {H : Type} : Left H := { results := [], args := [] }

/-- 'zoetropelaw05.PlaneCuts': WHATEVER THE INPUT: true; the input reads as it did. -/
def planeCutsSpec : ChangeSpec := { name := "planeCuts", fn := fun _ => fun
  | [d1, d2, d3] => { results := [.lit (.bool true)], args := [d1, d2, d3] }
  | _ => none }
def planeCutsRow : OpenClaim := { program := "ytkmakjapgkfdnaa", sum := "99a69665068e55fd3b252760511ce84a21fda1f8865bb7258fe8ec5c52cceabd", func := "zoetrope/zoetropelaw05.PlaneCuts", spec := "planeCuts", apart := false }
def PlaneCutsSaid : Prop := planeCutsRow.holds Try.pinned (OpenSpec.ofChange planeCutsSpec)

/-- ITS FALSE NEIGHBOUR: 'it returns false'. Refute it at one input. -/
def planeCutsWrong : ChangeSpec := { name := "planeCuts", fn := fun _ => fun
  | [d1, d2, d3] => { results := [.lit (.bool false)], args := [d1, d2, d3] }
  | _ => none }
def PlaneCutsWrongFalsely : Prop := planeCutsRow.holds Try.pinned (OpenSpec.ofChange planeCutsWrong)

/-- 'zoetropelaw05.PlaneFrames': WHATEVER THE INPUT: true; the input reads as it did. -/
def planeFramesSpec : ChangeSpec := { name := "planeFrames", fn := fun _ => fun
  | [d1, d2, d3] => { results := [.lit (.bool true)], args := [d1, d2, d3] }
  | _ => none }
def planeFramesRow : OpenClaim := { program := "ytkmakjapgkfdnaa", sum := "99a69665068e55fd3b252760511ce84a21fda1f8865bb7258fe8ec5c52cceabd", func := "zoetrope/zoetropelaw05.PlaneFrames", spec := "planeFrames", apart := false }
def PlaneFramesSaid : Prop := planeFramesRow.holds Try.pinned (OpenSpec.ofChange planeFramesSpec)

/-- ITS FALSE NEIGHBOUR: 'it returns false'. Refute it at one input. -/
def planeFramesWrong : ChangeSpec := { name := "planeFrames", fn := fun _ => fun
  | [d1, d2, d3] => { results := [.lit (.bool false)], args := [d1, d2, d3] }
  | _ => none }
def PlaneFramesWrongFalsely : Prop := planeFramesRow.holds Try.pinned (OpenSpec.ofChange planeFramesWrong)

/-- 'zoetropelaw05.PlaneLaid': WHATEVER THE INPUT: true; the input reads as it did. -/
def planeLaidSpec : ChangeSpec := { name := "planeLaid", fn := fun _ => fun
  | [d1, d2, d3] => { results := [.lit (.bool true)], args := [d1, d2, d3] }
  | _ => none }
def planeLaidRow : OpenClaim := { program := "ytkmakjapgkfdnaa", sum := "99a69665068e55fd3b252760511ce84a21fda1f8865bb7258fe8ec5c52cceabd", func := "zoetrope/zoetropelaw05.PlaneLaid", spec := "planeLaid", apart := false }
def PlaneLaidSaid : Prop := planeLaidRow.holds Try.pinned (OpenSpec.ofChange planeLaidSpec)

/-- ITS FALSE NEIGHBOUR: 'it returns false'. Refute it at one input. -/
def planeLaidWrong : ChangeSpec := { name := "planeLaid", fn := fun _ => fun
  | [d1, d2, d3] => { results := [.lit (.bool false)], args := [d1, d2, d3] }
  | _ => none }
def PlaneLaidWrongFalsely : Prop := planeLaidRow.holds Try.pinned (OpenSpec.ofChange planeLaidWrong)

/-- 'zoetropelaw05.PlaneApart': WHATEVER THE INPUT: true; the input reads as it did. -/
def planeApartSpec : ChangeSpec := { name := "planeApart", fn := fun _ => fun
  | [d1, d2, d3] => { results := [.lit (.bool true)], args := [d1, d2, d3] }
  | _ => none }
def planeApartRow : OpenClaim := { program := "ytkmakjapgkfdnaa", sum := "99a69665068e55fd3b252760511ce84a21fda1f8865bb7258fe8ec5c52cceabd", func := "zoetrope/zoetropelaw05.PlaneApart", spec := "planeApart", apart := false }
def PlaneApartSaid : Prop := planeApartRow.holds Try.pinned (OpenSpec.ofChange planeApartSpec)

/-- ITS FALSE NEIGHBOUR: 'it returns false'. Refute it at one input. -/
def planeApartWrong : ChangeSpec := { name := "planeApart", fn := fun _ => fun
  | [d1, d2, d3] => { results := [.lit (.bool false)], args := [d1, d2, d3] }
  | _ => none }
def PlaneApartWrongFalsely : Prop := planeApartRow.holds Try.pinned (OpenSpec.ofChange planeApartWrong)

/-- 'zoetropelaw05.PlaneTells': WHATEVER THE INPUT: true; the input reads as it did. -/
def planeTellsSpec : ChangeSpec := { name := "planeTells", fn := fun _ => fun
  | [d1, d2, d3] => { results := [.lit (.bool true)], args := [d1, d2, d3] }
  | _ => none }
def planeTellsRow : OpenClaim := { program := "ytkmakjapgkfdnaa", sum := "99a69665068e55fd3b252760511ce84a21fda1f8865bb7258fe8ec5c52cceabd", func := "zoetrope/zoetropelaw05.PlaneTells", spec := "planeTells", apart := false }
def PlaneTellsSaid : Prop := planeTellsRow.holds Try.pinned (OpenSpec.ofChange planeTellsSpec)

/-- ITS FALSE NEIGHBOUR: 'it returns false'. Refute it at one input. -/
def planeTellsWrong : ChangeSpec := { name := "planeTells", fn := fun _ => fun
  | [d1, d2, d3] => { results := [.lit (.bool false)], args := [d1, d2, d3] }
  | _ => none }
def PlaneTellsWrongFalsely : Prop := planeTellsRow.holds Try.pinned (OpenSpec.ofChange planeTellsWrong)

/-- 'zoetropelaw05.PlaneBack': WHATEVER THE INPUT: true; the input reads as it did. -/
def planeBackSpec : ChangeSpec := { name := "planeBack", fn := fun _ => fun
  | [d1, d2, d3] => { results := [.lit (.bool true)], args := [d1, d2, d3] }
  | _ => none }
def planeBackRow : OpenClaim := { program := "ytkmakjapgkfdnaa", sum := "99a69665068e55fd3b252760511ce84a21fda1f8865bb7258fe8ec5c52cceabd", func := "zoetrope/zoetropelaw05.PlaneBack", spec := "planeBack", apart := false }
def PlaneBackSaid : Prop := planeBackRow.holds Try.pinned (OpenSpec.ofChange planeBackSpec)

/-- ITS FALSE NEIGHBOUR: 'it returns false'. Refute it at one input. -/
def planeBackWrong : ChangeSpec := { name := "planeBack", fn := fun _ => fun
  | [d1, d2, d3] => { results := [.lit (.bool false)], args := [d1, d2, d3] }
  | _ => none }
def PlaneBackWrongFalsely : Prop := planeBackRow.holds Try.pinned (OpenSpec.ofChange planeBackWrong)

/-- 'zoetropelaw05.PlaneKnown': WHATEVER THE INPUT: true; the input reads as it did. -/
def planeKnownSpec : ChangeSpec := { name := "planeKnown", fn := fun _ => fun
  | [] => { results := [.lit (.bool true)], args := [] }
  | _ => none }
def planeKnownRow : OpenClaim := { program := "ytkmakjapgkfdnaa", sum := "99a69665068e55fd3b252760511ce84a21fda1f8865bb7258fe8ec5c52cceabd", func := "zoetrope/zoetropelaw05.PlaneKnown", spec := "planeKnown", apart := false }
def PlaneKnownSaid : Prop := planeKnownRow.holds Try.pinned (OpenSpec.ofChange planeKnownSpec)

/-- ITS FALSE NEIGHBOUR: 'it returns false'. Refute it at one input. -/
def planeKnownWrong : ChangeSpec := { name := "planeKnown", fn := fun _ => fun
  | [] => { results := [.lit (.bool false)], args := [] }
  | _ => none }
def PlaneKnownWrongFalsely : Prop := planeKnownRow.holds Try.pinned (OpenSpec.ofChange planeKnownWrong)

/- THE SECOND FORM. 'bulk': how many values and letters a reading holds, each counted each time it is reached (what is shared counts as often as it is met; a slice's spare places count too). A statement '..UptoSaid' is the law's where the arguments, and the package variables that the reading takes, are together of bulk at most 1048576: NARROWER than '..Said'. Prove '..Said' where nothing that the law and all that it calls make is longer than what came in: it says more and counts as full. Else prove '..UptoSaid'. A law counts once. -/
mutual
def uptoBulk {H : Type} : DataW H → Nat
  | .lit (.string bytes) => bytes.length + 1
  | .lit _ => 1
  | .nil => 1
  | .ptr d => uptoBulk d + 1
  | .slice elems spare => uptoBulkAll elems + uptoBulkAll spare + 1
  | .agg parts => uptoBulkAll parts + 1
  | .iface _ d => uptoBulk d + 1
  | .map entries => uptoBulkEntries entries + 1
  | .held _ => 1
def uptoBulkAll {H : Type} : List (DataW H) → Nat
  | [] => 0
  | d :: r => uptoBulk d + uptoBulkAll r
def uptoBulkEntries {H : Type} : List (Lit × DataW H) → Nat
  | [] => 0
  | x :: r => uptoBulkEntry x + uptoBulkEntries r
def uptoBulkEntry {H : Type} : Lit × DataW H → Nat
  | (.string bytes, d) => bytes.length + uptoBulk d + 1
  | (_, d) => uptoBulk d + 1
 end
def uptoSmall : (H : Type) → List (DataW H) → Bool := fun _ ds => decide (uptoBulkAll ds ≤ 1048576)
def OpenSpec.upto (s : _root_.Go.ChangeSpec) : _root_.Go.OpenSpec := { _root_.Go.OpenSpec.ofChange s with cond := some uptoSmall }

/-- 'zoetropelaw05.PlaneCuts', WHERE WHAT IT READS IS OF BULK AT MOST 1048576: true; the input reads as it did. -/
def planeCutsUptoRow : OpenClaim := { program := "ytkmakjapgkfdnaa", sum := "99a69665068e55fd3b252760511ce84a21fda1f8865bb7258fe8ec5c52cceabd", func := "zoetrope/zoetropelaw05.PlaneCuts", spec := "planeCuts", apart := false, narrowed := true }
def PlaneCutsUptoSaid : Prop := planeCutsUptoRow.holds Try.pinned (OpenSpec.upto planeCutsSpec)

/-- 'zoetropelaw05.PlaneFrames', WHERE WHAT IT READS IS OF BULK AT MOST 1048576: true; the input reads as it did. -/
def planeFramesUptoRow : OpenClaim := { program := "ytkmakjapgkfdnaa", sum := "99a69665068e55fd3b252760511ce84a21fda1f8865bb7258fe8ec5c52cceabd", func := "zoetrope/zoetropelaw05.PlaneFrames", spec := "planeFrames", apart := false, narrowed := true }
def PlaneFramesUptoSaid : Prop := planeFramesUptoRow.holds Try.pinned (OpenSpec.upto planeFramesSpec)

/-- 'zoetropelaw05.PlaneLaid', WHERE WHAT IT READS IS OF BULK AT MOST 1048576: true; the input reads as it did. -/
def planeLaidUptoRow : OpenClaim := { program := "ytkmakjapgkfdnaa", sum := "99a69665068e55fd3b252760511ce84a21fda1f8865bb7258fe8ec5c52cceabd", func := "zoetrope/zoetropelaw05.PlaneLaid", spec := "planeLaid", apart := false, narrowed := true }
def PlaneLaidUptoSaid : Prop := planeLaidUptoRow.holds Try.pinned (OpenSpec.upto planeLaidSpec)

/-- 'zoetropelaw05.PlaneApart', WHERE WHAT IT READS IS OF BULK AT MOST 1048576: true; the input reads as it did. -/
def planeApartUptoRow : OpenClaim := { program := "ytkmakjapgkfdnaa", sum := "99a69665068e55fd3b252760511ce84a21fda1f8865bb7258fe8ec5c52cceabd", func := "zoetrope/zoetropelaw05.PlaneApart", spec := "planeApart", apart := false, narrowed := true }
def PlaneApartUptoSaid : Prop := planeApartUptoRow.holds Try.pinned (OpenSpec.upto planeApartSpec)

/-- 'zoetropelaw05.PlaneTells', WHERE WHAT IT READS IS OF BULK AT MOST 1048576: true; the input reads as it did. -/
def planeTellsUptoRow : OpenClaim := { program := "ytkmakjapgkfdnaa", sum := "99a69665068e55fd3b252760511ce84a21fda1f8865bb7258fe8ec5c52cceabd", func := "zoetrope/zoetropelaw05.PlaneTells", spec := "planeTells", apart := false, narrowed := true }
def PlaneTellsUptoSaid : Prop := planeTellsUptoRow.holds Try.pinned (OpenSpec.upto planeTellsSpec)

/-- 'zoetropelaw05.PlaneBack', WHERE WHAT IT READS IS OF BULK AT MOST 1048576: true; the input reads as it did. -/
def planeBackUptoRow : OpenClaim := { program := "ytkmakjapgkfdnaa", sum := "99a69665068e55fd3b252760511ce84a21fda1f8865bb7258fe8ec5c52cceabd", func := "zoetrope/zoetropelaw05.PlaneBack", spec := "planeBack", apart := false, narrowed := true }
def PlaneBackUptoSaid : Prop := planeBackUptoRow.holds Try.pinned (OpenSpec.upto planeBackSpec)

/-- 'zoetropelaw05.PlaneKnown', WHERE WHAT IT READS IS OF BULK AT MOST 1048576: true; the input reads as it did. -/
def planeKnownUptoRow : OpenClaim := { program := "ytkmakjapgkfdnaa", sum := "99a69665068e55fd3b252760511ce84a21fda1f8865bb7258fe8ec5c52cceabd", func := "zoetrope/zoetropelaw05.PlaneKnown", spec := "planeKnown", apart := false, narrowed := true }
def PlaneKnownUptoSaid : Prop := planeKnownUptoRow.holds Try.pinned (OpenSpec.upto planeKnownSpec)

end Rows
end Go.Proofs.Ytkmakjapgkfdnaa
