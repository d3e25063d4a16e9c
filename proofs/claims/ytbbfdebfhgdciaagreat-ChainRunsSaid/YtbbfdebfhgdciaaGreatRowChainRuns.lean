/- The law ChainRuns of the given program answers true at every input, and what was handed in reads behind the call as it read before: for all inputs of the row, without a condition of its own. -/
import Derived.Test.YtbbfdebfhgdciaaGreatRows
import Derived.Test.YtbbfdebfhgdciaaGreatPAb27
import Derived.Test.YtbbfdebfhgdciaaGreatPFn
import Derived.WalkKit
import Derived.ProofKit
set_option maxRecDepth 100000
namespace Go.Proofs.YtbbfdebfhgdciaaGreat.ChainRunsZ
open Go.Zt
theorem own : ownKnob Tryz.prog.godebug = none := by kernel_rfl
theorem laidOut : laidOutB Tryz.prog = true := by kernel_rfl
theorem named : (Tryz.prog.funcs.toList.all fun fn => !(fn.name == "runtime.NumGoroutine")) = true := by kernel_rfl
theorem names : NamesOk Tryz.prog T := fun f fn ann hf _ => by
  have h := List.all_eq_true.1 named fn (Array.mem_toList_iff.2 (Array.mem_of_getElem? hf))
  simpa using h
theorem mixed : Tryz.prog.follows .mixedOrders = true := by kernel_rfl
theorem lifted (os : Os) (started : os.Started) (H : Type) (enc : TypeId × Value → H) :
    ReturnsInHanded {} Tryz.checked os 3 .any (Rows.chainRunsSpec.pre6 enc Tryz.prog Tryz.f3 Rows.chainRunsRow.domain false) (Rows.chainRunsSpec.post enc Tryz.prog Tryz.f3 false true false false) := by
  refine returnsInHanded_of_change_sized (C := Tryz.checked) own started (by kernel_rfl) Tryz.func3
    (ChangeSpec.witness6 (enc := enc) (C := Tryz.checked) false ⟨#[], #[.agg #[.int .i64 0, .int .i64 0, .slice none 0 0, .int .i64 0, .int .i64 0, .slice none 0 0, .int .i64 0, .int .i64 0, .slice none 0 0], .agg #[.bool false, .int .i64 0, .bool false, .bool false, .int .i64 0, .int .i64 0, .int .i64 0, .int .i64 0, .int .i64 0, .int .i64 0, .int .i64 0, .int .i64 0, .int .i64 0, .int .i64 0, .int .i64 0, .int .i64 0, .int .i64 0, .bool false, .int .i64 0, .int .i64 0, .int .i64 0, .int .i64 0, .int .i64 0, .bool false, .int .i64 0, .int .i64 0, .slice none 0 0, .bool false, .bool false, .bool false], .agg #[.int .i64 0, .int .i64 0, .slice none 0 0, .slice none 0 0, .slice none 0 0, .int .i64 0, .int .i64 0, .slice none 0 0, .slice none 0 0, .slice none 0 0, .int .i64 0, .int .i64 0, .slice none 0 0, .slice none 0 0, .slice none 0 0, .slice none 0 0, .slice none 0 0, .slice none 0 0, .slice none 0 0, .slice none 0 0]], []⟩ 8 (by kernel_rfl) (by kernel_rfl) (by kernel_rfl) (by kernel_rfl)) ?_
  intro W base args ds gs before hval hW _ hsz _
  exact law_contract (P := Tryz.prog) (T := T) names mixed laidOut (fn := Tryz.f3) (s := Rows.chainRunsSpec) (ts := [27, 34, 43]) (t0 := 4) (by kernel_rfl) (by kernel_rfl) Tryz.underlying4 (by kernel_rfl) rfl
    (fun ds h => by rcases ds with _ | ⟨d1, _ | ⟨d2, _ | ⟨d3, _ | ⟨d4, ds⟩⟩⟩⟩ <;> first | rfl | (simp at h)) (fun M vs hro h => ChainRuns_law M vs hro h) W base args ds gs before hval hW hsz
theorem over : Rows.chainRunsRow.holds Tryz.pinned (OpenSpec.ofChange Rows.chainRunsSpec) :=
  OpenClaim.holds_of_wide 3 Tryz.f3 rfl rfl rfl rfl rfl rfl rfl ⟨rfl, rfl, rfl, rfl, rfl⟩ rfl rfl rfl rfl rfl (by kernel_rfl) Tryz.func3 (by kernel_rfl)
    (of_decide_eq_true (by kernel_rfl)) (by unfold Func.isWrapper; first | (rw [if_pos (by decide +kernel)]; kernel_rfl) | (rw [if_neg (by decide +kernel)]; exact ⟨rfl, rfl⟩))
    (fun os started H enc _ => lifted os started H enc)
end Go.Proofs.YtbbfdebfhgdciaaGreat.ChainRunsZ
namespace Go.Proofs.YtbbfdebfhgdciaaGreat
theorem chainRuns_holds : Rows.ChainRunsSaid := ChainRunsZ.over
#print axioms chainRuns_holds
end Go.Proofs.YtbbfdebfhgdciaaGreat
