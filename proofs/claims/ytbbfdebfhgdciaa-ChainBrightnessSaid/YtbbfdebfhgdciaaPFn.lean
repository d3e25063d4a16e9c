/- What the law ChainBrightness needs of the text Fn. -/
import Derived.Test.YtbbfdebfhgdciaaPFk
set_option linter.unusedVariables false
set_option linter.unusedSimpArgs false
set_option maxRecDepth 100000
namespace Go.Zt
theorem newN_len (f : Fr3) (damp : Int) (X Y : Nat) (a b c d : Int) (n : Nat) (o : List Int) : (newN f damp X Y a b c d n o).length = o.length := by
  unfold newN newS
  split <;> rw [layE_len]
end Go.Zt
