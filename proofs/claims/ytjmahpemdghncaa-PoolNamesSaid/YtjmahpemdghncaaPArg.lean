/- What the law PoolNames needs of the text Arg. -/
import Derived.Test.YtjmahpemdghncaaPAb29
import Derived.Test.YtjmahpemdghncaaPEq0
import Derived.KernelRfl
set_option maxRecDepth 100000
set_option linter.unusedVariables false
namespace Go.Zt
theorem Arg.PoolNames {M : Mem} {vs : List Value} (h : LaysArgs P M [] vs) : vs = [] := args_nil h
end Go.Zt
