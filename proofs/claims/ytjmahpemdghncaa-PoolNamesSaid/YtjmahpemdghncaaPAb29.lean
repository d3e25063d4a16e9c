/- What the law PoolNames needs of the text Ab29. -/
import Derived.Test.YtjmahpemdghncaaPAb27
import Derived.Test.YtjmahpemdghncaaPAb28
set_option linter.unusedVariables false
set_option linter.unusedSimpArgs false
namespace Go.Zt
section
variable {P : Program} {M : Mem} {d : Nat} {t : TypeId} {cs : List Value}
theorem args_nil {vs : List Value} (h : LaysArgs P M [] vs) : vs = [] := by
  cases vs with
  | nil => rfl
  | cons v r => cases h
end
end Go.Zt
