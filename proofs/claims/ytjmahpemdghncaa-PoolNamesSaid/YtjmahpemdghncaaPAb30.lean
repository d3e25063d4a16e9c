/- What the law PoolNames needs of the text Ab30. -/
import Derived.Test.YtjmahpemdghncaaPAb28
import GoSem.ClaimKeys
set_option linter.unusedVariables false
set_option linter.unusedSimpArgs false
namespace Go.Zt
theorem ext_getD {xs ys : List Int} (hl : xs.length = ys.length) (h : ∀ i, i < xs.length → xs.getD i 0 = ys.getD i 0) : xs = ys := by
  apply List.ext_getElem hl
  intro i h1 h2
  have := h i h1
  simpa [List.getD_eq_getElem?_getD, List.getElem?_eq_getElem h1, List.getElem?_eq_getElem h2] using this
theorem set_map {k : IntKind} {xs : List Int} {i : Nat} {v : Int} : (xs.map (Value.int k)).set i (.int k v) = (xs.set i v).map (Value.int k) := by rw [List.map_set]
theorem Buf.rdI {M0 M : Mem} {a : Addr} {k : IntKind} {xs : List Int} (h : Buf M0 M a (xs.map (Value.int k))) : RdI M k (some a) xs := Buf.rd h (by simp)
end Go.Zt
