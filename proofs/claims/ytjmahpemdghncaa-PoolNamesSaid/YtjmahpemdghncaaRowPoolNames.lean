/- The law PoolNames of the given program answers true at every input, and what was handed in reads behind the call as it read before: for all inputs of the row, without a condition of its own. -/
import Derived.Test.YtjmahpemdghncaaRows
import Derived.Test.YtjmahpemdghncaaPAb27
import Derived.Test.YtjmahpemdghncaaPFu
import Derived.WalkKit
import Derived.ProofKit
set_option maxRecDepth 100000
namespace Go.Proofs.Ytjmahpemdghncaa.PoolNamesZ
open Go.Zt
theorem own : ownKnob Try.prog.godebug = none := by kernel_rfl
theorem laidOut : laidOutB Try.prog = true := by kernel_rfl
theorem named : (Try.prog.funcs.toList.all fun fn => !(fn.name == "runtime.NumGoroutine")) = true := by kernel_rfl
theorem names : NamesOk Try.prog T := fun f fn ann hf _ => by
  have h := List.all_eq_true.1 named fn (Array.mem_toList_iff.2 (Array.mem_of_getElem? hf))
  simpa using h
theorem mixed : Try.prog.follows .mixedOrders = true := by kernel_rfl
theorem lifted (os : Os) (started : os.Started) (H : Type) (enc : TypeId × Value → H) :
    ReturnsInHanded {} Try.checked os 6 .any (Rows.poolNamesSpec.pre6 enc Try.prog Try.f6 Rows.poolNamesRow.domain false) (Rows.poolNamesSpec.post enc Try.prog Try.f6 false true false false) := by
  refine returnsInHanded_of_change_sized (C := Try.checked) own started (by kernel_rfl) Try.func6
    (ChangeSpec.witness6 (enc := enc) (C := Try.checked) false ⟨#[], #[], []⟩ 8 (by kernel_rfl) (by kernel_rfl) (by kernel_rfl) (by kernel_rfl)) ?_
  intro W base args ds gs before hval hW _ hsz _
  exact law_contract (P := Try.prog) (T := T) names mixed laidOut (fn := Try.f6) (s := Rows.poolNamesSpec) (ts := []) (t0 := 4) (by kernel_rfl) (by kernel_rfl) Try.underlying4 (by kernel_rfl) rfl
    (fun ds h => by rcases ds with _ | ⟨d1, ds⟩ <;> first | rfl | (simp at h)) (fun M vs hro h => PoolNames_law M vs hro h) W base args ds gs before hval hW hsz
theorem over : Rows.poolNamesRow.holds Try.pinned (OpenSpec.ofChange Rows.poolNamesSpec) :=
  OpenClaim.holds_of_wide 6 Try.f6 rfl rfl rfl rfl rfl rfl rfl ⟨rfl, rfl, rfl, rfl, rfl⟩ rfl rfl rfl rfl rfl (by kernel_rfl) Try.func6 (by kernel_rfl)
    (of_decide_eq_true (by kernel_rfl)) (by unfold Func.isWrapper; first | (rw [if_pos (by decide +kernel)]; kernel_rfl) | (rw [if_neg (by decide +kernel)]; exact ⟨rfl, rfl⟩))
    (fun os started H enc _ => lifted os started H enc)
end Go.Proofs.Ytjmahpemdghncaa.PoolNamesZ
namespace Go.Proofs.Ytjmahpemdghncaa
theorem poolNames_holds : Rows.PoolNamesSaid := PoolNamesZ.over
#print axioms poolNames_holds
end Go.Proofs.Ytjmahpemdghncaa
