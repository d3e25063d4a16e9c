/-
  No cell of these rows narrows 'for every input' (looked for: loops, veiled, ifaces, maps, wideKeys, modest, calm, conditions, laid).
  DERIVED. THE GIVEN ROWS OF THIS SEAT. 8 by the template 'for every input the law returns true; each argument reads behind the call as it read before'; 0 by the template 'total and deterministic' (their statements: YtpjfnpokkpapaaaTotals.lean).
  GIVEN WITH THE SEED: the statements are not yours to turn. If you find one false, say at which input.
  Laid BY PROGRAM, IN A SANDBOX (cutbox-rows.mjs): the forced cells as the released guide's own fill.sh prints them over the translation 45181fa3ddbd9ce7… (all of the seat's roots in one cut). By AI agents, Wed Nov 11 2026. No macro, syntax, notation, axiom, sorry.
-/
import Derived.Test.YtpjfnpokkpapaaaChecked
import GoSem.Claim
import GoSem.ClaimJoined
import GoSem.ClaimMapViews
import Derived.JoinedTies
import Derived.KernelRfl
namespace Go.Proofs.Ytpjfnpokkpapaaa
/- THE CELL 'sum', in the pinned program and in every row, IS THE sha256 OF THE DUMP (.gsa) THAT YtpjfnpokkpapaaaProg.lean LOADS. Nothing in Lean hashes anything: it is a label: what it is worth is what the hold of that sum in a sandbox is worth. -/
noncomputable def Try.pinned : Pinned := { name := "ytpjfnpokkpapaaa", sum := "45181fa3ddbd9ce7769864137792c66f946cac41376e7661b2b36c49cafdfd40", checked := Try.checked }
namespace Rows
def none {H : Type} : Left H := { results := [], args := [] }

/-- 'zoetropelaw06.ScoreRatios': WHATEVER THE INPUT: true; the input reads as it did. -/
def scoreRatiosSpec : ChangeSpec := { name := "scoreRatios", fn := fun _ => fun
  | [d1, d2] => { results := [.lit (.bool true)], args := [d1, d2] }
  | _ => none }
def scoreRatiosRow : OpenClaim := { program := "ytpjfnpokkpapaaa", sum := "45181fa3ddbd9ce7769864137792c66f946cac41376e7661b2b36c49cafdfd40", func := "zoetrope/zoetropelaw06.ScoreRatios", spec := "scoreRatios", apart := false }
def ScoreRatiosSaid : Prop := scoreRatiosRow.holds Try.pinned (OpenSpec.ofChange scoreRatiosSpec)

/-- ITS FALSE NEIGHBOUR: 'it returns false'. Refute it at one input. -/
def scoreRatiosWrong : ChangeSpec := { name := "scoreRatios", fn := fun _ => fun
  | [d1, d2] => { results := [.lit (.bool false)], args := [d1, d2] }
  | _ => none }
def ScoreRatiosWrongFalsely : Prop := scoreRatiosRow.holds Try.pinned (OpenSpec.ofChange scoreRatiosWrong)

/-- 'zoetropelaw06.ScoreCosts': WHATEVER THE INPUT: true; the input reads as it did. -/
def scoreCostsSpec : ChangeSpec := { name := "scoreCosts", fn := fun _ => fun
  | [d1, d2, d3] => { results := [.lit (.bool true)], args := [d1, d2, d3] }
  | _ => none }
def scoreCostsRow : OpenClaim := { program := "ytpjfnpokkpapaaa", sum := "45181fa3ddbd9ce7769864137792c66f946cac41376e7661b2b36c49cafdfd40", func := "zoetrope/zoetropelaw06.ScoreCosts", spec := "scoreCosts", apart := false }
def ScoreCostsSaid : Prop := scoreCostsRow.holds Try.pinned (OpenSpec.ofChange scoreCostsSpec)

/-- ITS FALSE NEIGHBOUR: 'it returns false'. Refute it at one input. -/
def scoreCostsWrong : ChangeSpec := { name := "scoreCosts", fn := fun _ => fun
  | [d1, d2, d3] => { results := [.lit (.bool false)], args := [d1, d2, d3] }
  | _ => none }
def ScoreCostsWrongFalsely : Prop := scoreCostsRow.holds Try.pinned (OpenSpec.ofChange scoreCostsWrong)

/-- 'zoetropelaw06.ScoreLists': WHATEVER THE INPUT: true; the input reads as it did. -/
def scoreListsSpec : ChangeSpec := { name := "scoreLists", fn := fun _ => fun
  | [d] => { results := [.lit (.bool true)], args := [d] }
  | _ => none }
def scoreListsRow : OpenClaim := { program := "ytpjfnpokkpapaaa", sum := "45181fa3ddbd9ce7769864137792c66f946cac41376e7661b2b36c49cafdfd40", func := "zoetrope/zoetropelaw06.ScoreLists", spec := "scoreLists", apart := false }
def ScoreListsSaid : Prop := scoreListsRow.holds Try.pinned (OpenSpec.ofChange scoreListsSpec)

/-- ITS FALSE NEIGHBOUR: 'it returns false'. Refute it at one input. -/
def scoreListsWrong : ChangeSpec := { name := "scoreLists", fn := fun _ => fun
  | [d] => { results := [.lit (.bool false)], args := [d] }
  | _ => none }
def ScoreListsWrongFalsely : Prop := scoreListsRow.holds Try.pinned (OpenSpec.ofChange scoreListsWrong)

/-- 'zoetropelaw06.ScoreDearer': WHATEVER THE INPUT: true; the input reads as it did. -/
def scoreDearerSpec : ChangeSpec := { name := "scoreDearer", fn := fun _ => fun
  | [d1, d2, d3] => { results := [.lit (.bool true)], args := [d1, d2, d3] }
  | _ => none }
def scoreDearerRow : OpenClaim := { program := "ytpjfnpokkpapaaa", sum := "45181fa3ddbd9ce7769864137792c66f946cac41376e7661b2b36c49cafdfd40", func := "zoetrope/zoetropelaw06.ScoreDearer", spec := "scoreDearer", apart := false }
def ScoreDearerSaid : Prop := scoreDearerRow.holds Try.pinned (OpenSpec.ofChange scoreDearerSpec)

/-- ITS FALSE NEIGHBOUR: 'it returns false'. Refute it at one input. -/
def scoreDearerWrong : ChangeSpec := { name := "scoreDearer", fn := fun _ => fun
  | [d1, d2, d3] => { results := [.lit (.bool false)], args := [d1, d2, d3] }
  | _ => none }
def ScoreDearerWrongFalsely : Prop := scoreDearerRow.holds Try.pinned (OpenSpec.ofChange scoreDearerWrong)

/-- 'zoetropelaw06.ScoreBest': WHATEVER THE INPUT: true; the input reads as it did. -/
def scoreBestSpec : ChangeSpec := { name := "scoreBest", fn := fun _ => fun
  | [d] => { results := [.lit (.bool true)], args := [d] }
  | _ => none }
def scoreBestRow : OpenClaim := { program := "ytpjfnpokkpapaaa", sum := "45181fa3ddbd9ce7769864137792c66f946cac41376e7661b2b36c49cafdfd40", func := "zoetrope/zoetropelaw06.ScoreBest", spec := "scoreBest", apart := false }
def ScoreBestSaid : Prop := scoreBestRow.holds Try.pinned (OpenSpec.ofChange scoreBestSpec)

/-- ITS FALSE NEIGHBOUR: 'it returns false'. Refute it at one input. -/
def scoreBestWrong : ChangeSpec := { name := "scoreBest", fn := fun _ => fun
  | [d] => { results := [.lit (.bool false)], args := [d] }
  | _ => none }
def ScoreBestWrongFalsely : Prop := scoreBestRow.holds Try.pinned (OpenSpec.ofChange scoreBestWrong)

/-- 'zoetropelaw06.ScoreMiddle': WHATEVER THE INPUT: true; the input reads as it did. -/
def scoreMiddleSpec : ChangeSpec := { name := "scoreMiddle", fn := fun _ => fun
  | [d1, d2] => { results := [.lit (.bool true)], args := [d1, d2] }
  | _ => none }
def scoreMiddleRow : OpenClaim := { program := "ytpjfnpokkpapaaa", sum := "45181fa3ddbd9ce7769864137792c66f946cac41376e7661b2b36c49cafdfd40", func := "zoetrope/zoetropelaw06.ScoreMiddle", spec := "scoreMiddle", apart := false }
def ScoreMiddleSaid : Prop := scoreMiddleRow.holds Try.pinned (OpenSpec.ofChange scoreMiddleSpec)

/-- ITS FALSE NEIGHBOUR: 'it returns false'. Refute it at one input. -/
def scoreMiddleWrong : ChangeSpec := { name := "scoreMiddle", fn := fun _ => fun
  | [d1, d2] => { results := [.lit (.bool false)], args := [d1, d2] }
  | _ => none }
def ScoreMiddleWrongFalsely : Prop := scoreMiddleRow.holds Try.pinned (OpenSpec.ofChange scoreMiddleWrong)

/-- 'zoetropelaw06.ScoreKnown': WHATEVER THE INPUT: true; the input reads as it did. -/
def scoreKnownSpec : ChangeSpec := { name := "scoreKnown", fn := fun _ => fun
  | [] => { results := [.lit (.bool true)], args := [] }
  | _ => none }
def scoreKnownRow : OpenClaim := { program := "ytpjfnpokkpapaaa", sum := "45181fa3ddbd9ce7769864137792c66f946cac41376e7661b2b36c49cafdfd40", func := "zoetrope/zoetropelaw06.ScoreKnown", spec := "scoreKnown", apart := false }
def ScoreKnownSaid : Prop := scoreKnownRow.holds Try.pinned (OpenSpec.ofChange scoreKnownSpec)

/-- ITS FALSE NEIGHBOUR: 'it returns false'. Refute it at one input. -/
def scoreKnownWrong : ChangeSpec := { name := "scoreKnown", fn := fun _ => fun
  | [] => { results := [.lit (.bool false)], args := [] }
  | _ => none }
def ScoreKnownWrongFalsely : Prop := scoreKnownRow.holds Try.pinned (OpenSpec.ofChange scoreKnownWrong)

/-- 'zoetropelaw06.ScoreAlike': WHATEVER THE INPUT: true; the input reads as it did. -/
def scoreAlikeSpec : ChangeSpec := { name := "scoreAlike", fn := fun _ => fun
  | [d1, d2, d3] => { results := [.lit (.bool true)], args := [d1, d2, d3] }
  | _ => none }
def scoreAlikeRow : OpenClaim := { program := "ytpjfnpokkpapaaa", sum := "45181fa3ddbd9ce7769864137792c66f946cac41376e7661b2b36c49cafdfd40", func := "zoetrope/zoetropelaw06.ScoreAlike", spec := "scoreAlike", apart := false }
def ScoreAlikeSaid : Prop := scoreAlikeRow.holds Try.pinned (OpenSpec.ofChange scoreAlikeSpec)

/-- ITS FALSE NEIGHBOUR: 'it returns false'. Refute it at one input. -/
def scoreAlikeWrong : ChangeSpec := { name := "scoreAlike", fn := fun _ => fun
  | [d1, d2, d3] => { results := [.lit (.bool false)], args := [d1, d2, d3] }
  | _ => none }
def ScoreAlikeWrongFalsely : Prop := scoreAlikeRow.holds Try.pinned (OpenSpec.ofChange scoreAlikeWrong)

/- THE SECOND FORM. 'bulk': how many values and letters a reading holds, each counted each time it is reached (what is shared counts as often as it is met; a slice's spare places count too). A statement '..UptoSaid' is the law's where the arguments, and the package variables that the reading takes, are together of bulk at most 1048576: NARROWER than '..Said'. Prove '..Said' where nothing that the law and all that it calls make is longer than what came in: it says more and counts as full. Else prove '..UptoSaid'. A law counts once. -/
mutual
def uptoBulk {H : Type} : DataW H → Nat
  | .lit (.string bytes) => bytes.length + 1
  | .lit _ => 1
  | .nil => 1
  | .ptr d => uptoBulk d + 1
  | .slice elems spare => uptoBulkAll elems + uptoBulkAll spare + 1
  | .agg parts => uptoBulkAll parts + 1
  | .iface _ d => uptoBulk d + 1
  | .map entries => uptoBulkEntries entries + 1
  | .held _ => 1
def uptoBulkAll {H : Type} : List (DataW H) → Nat
  | [] => 0
  | d :: r => uptoBulk d + uptoBulkAll r
def uptoBulkEntries {H : Type} : List (Lit × DataW H) → Nat
  | [] => 0
  | x :: r => uptoBulkEntry x + uptoBulkEntries r
def uptoBulkEntry {H : Type} : Lit × DataW H → Nat
  | (.string bytes, d) => bytes.length + uptoBulk d + 1
  | (_, d) => uptoBulk d + 1
 end
def uptoSmall : (H : Type) → List (DataW H) → Bool := fun _ ds => decide (uptoBulkAll ds ≤ 1048576)
def OpenSpec.upto (s : _root_.Go.ChangeSpec) : _root_.Go.OpenSpec := { _root_.Go.OpenSpec.ofChange s with cond := some uptoSmall }

/-- 'zoetropelaw06.ScoreRatios', WHERE WHAT IT READS IS OF BULK AT MOST 1048576: true; the input reads as it did. -/
def scoreRatiosUptoRow : OpenClaim := { program := "ytpjfnpokkpapaaa", sum := "45181fa3ddbd9ce7769864137792c66f946cac41376e7661b2b36c49cafdfd40", func := "zoetrope/zoetropelaw06.ScoreRatios", spec := "scoreRatios", apart := false, narrowed := true }
def ScoreRatiosUptoSaid : Prop := scoreRatiosUptoRow.holds Try.pinned (OpenSpec.upto scoreRatiosSpec)

/-- 'zoetropelaw06.ScoreCosts', WHERE WHAT IT READS IS OF BULK AT MOST 1048576: true; the input reads as it did. -/
def scoreCostsUptoRow : OpenClaim := { program := "ytpjfnpokkpapaaa", sum := "45181fa3ddbd9ce7769864137792c66f946cac41376e7661b2b36c49cafdfd40", func := "zoetrope/zoetropelaw06.ScoreCosts", spec := "scoreCosts", apart := false, narrowed := true }
def ScoreCostsUptoSaid : Prop := scoreCostsUptoRow.holds Try.pinned (OpenSpec.upto scoreCostsSpec)

/-- 'zoetropelaw06.ScoreLists', WHERE WHAT IT READS IS OF BULK AT MOST 1048576: true; the input reads as it did. -/
def scoreListsUptoRow : OpenClaim := { program := "ytpjfnpokkpapaaa", sum := "45181fa3ddbd9ce7769864137792c66f946cac41376e7661b2b36c49cafdfd40", func := "zoetrope/zoetropelaw06.ScoreLists", spec := "scoreLists", apart := false, narrowed := true }
def ScoreListsUptoSaid : Prop := scoreListsUptoRow.holds Try.pinned (OpenSpec.upto scoreListsSpec)

/-- 'zoetropelaw06.ScoreDearer', WHERE WHAT IT READS IS OF BULK AT MOST 1048576: true; the input reads as it did. -/
def scoreDearerUptoRow : OpenClaim := { program := "ytpjfnpokkpapaaa", sum := "45181fa3ddbd9ce7769864137792c66f946cac41376e7661b2b36c49cafdfd40", func := "zoetrope/zoetropelaw06.ScoreDearer", spec := "scoreDearer", apart := false, narrowed := true }
def ScoreDearerUptoSaid : Prop := scoreDearerUptoRow.holds Try.pinned (OpenSpec.upto scoreDearerSpec)

/-- 'zoetropelaw06.ScoreBest', WHERE WHAT IT READS IS OF BULK AT MOST 1048576: true; the input reads as it did. -/
def scoreBestUptoRow : OpenClaim := { program := "ytpjfnpokkpapaaa", sum := "45181fa3ddbd9ce7769864137792c66f946cac41376e7661b2b36c49cafdfd40", func := "zoetrope/zoetropelaw06.ScoreBest", spec := "scoreBest", apart := false, narrowed := true }
def ScoreBestUptoSaid : Prop := scoreBestUptoRow.holds Try.pinned (OpenSpec.upto scoreBestSpec)

/-- 'zoetropelaw06.ScoreMiddle', WHERE WHAT IT READS IS OF BULK AT MOST 1048576: true; the input reads as it did. -/
def scoreMiddleUptoRow : OpenClaim := { program := "ytpjfnpokkpapaaa", sum := "45181fa3ddbd9ce7769864137792c66f946cac41376e7661b2b36c49cafdfd40", func := "zoetrope/zoetropelaw06.ScoreMiddle", spec := "scoreMiddle", apart := false, narrowed := true }
def ScoreMiddleUptoSaid : Prop := scoreMiddleUptoRow.holds Try.pinned (OpenSpec.upto scoreMiddleSpec)

/-- 'zoetropelaw06.ScoreKnown', WHERE WHAT IT READS IS OF BULK AT MOST 1048576: true; the input reads as it did. -/
def scoreKnownUptoRow : OpenClaim := { program := "ytpjfnpokkpapaaa", sum := "45181fa3ddbd9ce7769864137792c66f946cac41376e7661b2b36c49cafdfd40", func := "zoetrope/zoetropelaw06.ScoreKnown", spec := "scoreKnown", apart := false, narrowed := true }
def ScoreKnownUptoSaid : Prop := scoreKnownUptoRow.holds Try.pinned (OpenSpec.upto scoreKnownSpec)

/-- 'zoetropelaw06.ScoreAlike', WHERE WHAT IT READS IS OF BULK AT MOST 1048576: true; the input reads as it did. -/
def scoreAlikeUptoRow : OpenClaim := { program := "ytpjfnpokkpapaaa", sum := "45181fa3ddbd9ce7769864137792c66f946cac41376e7661b2b36c49cafdfd40", func := "zoetrope/zoetropelaw06.ScoreAlike", spec := "scoreAlike", apart := false, narrowed := true }
def ScoreAlikeUptoSaid : Prop := scoreAlikeUptoRow.holds Try.pinned (OpenSpec.upto scoreAlikeSpec)

end Rows
end Go.Proofs.Ytpjfnpokkpapaaa
