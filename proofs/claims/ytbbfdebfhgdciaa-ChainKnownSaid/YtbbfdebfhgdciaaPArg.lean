/- What the law ChainKnown needs of the text Arg. -/
import Derived.Test.YtbbfdebfhgdciaaPAb29
import Derived.Test.YtbbfdebfhgdciaaPEq0
import Derived.KernelRfl
set_option maxRecDepth 100000
set_option linter.unusedVariables false
namespace Go.Zt
theorem Arg.ChainKnown {M : Mem} {vs : List Value} (h : LaysArgs P M [] vs) : vs = [] := args_nil h
end Go.Zt
