/- What the law ChainStill needs of the text Fl. -/
import Derived.Test.YtbbfdebfhgdciaaPFk
set_option linter.unusedVariables false
set_option linter.unusedSimpArgs false
set_option maxRecDepth 100000
set_option maxHeartbeats 4000000
namespace Go.Zt
theorem frB_at (f : Fr3) (ad : Nat → Addr) (cc : Nat → Nat) (g : Nat → List Int) (n : Nat) (hn : n < 3) : ((frB f ad cc g).at n).w = (f.at n).w ∧ ((frB f ad cc g).at n).h = (f.at n).h ∧ ((frB f ad cc g).at n).xs = g n := by
  rcases lt3 hn with rfl | rfl | rfl <;> exact ⟨rfl, rfl, rfl⟩
end Go.Zt
