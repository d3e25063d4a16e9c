/- The law ScoreBest of the given program answers true at every input, and what was handed in reads behind the call as it read before: for all inputs of the row, without a condition of its own. -/
import Derived.Test.YtpjfnpokkpapaaaRows
import Derived.Test.YtpjfnpokkpapaaaAb27
import Derived.Deep.CondSized
import Derived.Test.YtpjfnpokkpapaaaFi
import Derived.WalkKit
import Derived.ProofKit
set_option maxRecDepth 100000
namespace Go.Proofs.Ytpjfnpokkpapaaa.ScoreBestUptoZ
open Go.Zt
theorem own : ownKnob Try.prog.godebug = none := by kernel_rfl
theorem laidOut : laidOutB Try.prog = true := by kernel_rfl
theorem named : (Try.prog.funcs.toList.all fun fn => !(fn.name == "runtime.NumGoroutine")) = true := by kernel_rfl
theorem names : NamesOk Try.prog T := fun f fn ann hf _ => by
  have h := List.all_eq_true.1 named fn (Array.mem_toList_iff.2 (Array.mem_of_getElem? hf))
  simpa using h
theorem mixed : Try.prog.follows .mixedOrders = true := by kernel_rfl
theorem lifted (os : Os) (started : os.Started) (H : Type) (enc : TypeId × Value → H) (F : Stop.Interp) :
    ReturnsInHanded {} Try.checked os 7 .any ((Rows.OpenSpec.upto Rows.scoreBestSpec).pre6 enc Try.prog Try.f7 Rows.scoreBestUptoRow.domain false) (((Rows.OpenSpec.upto Rows.scoreBestSpec).at F).post enc Try.prog Try.f7 false true false false) := by
  refine returnsInHanded_of_cond_sized (C := Try.checked) (k := Rows.uptoSmall) rfl own started (by kernel_rfl) Try.func7
    (OpenSpec.witness (enc := enc) (C := Try.checked) (k := Rows.uptoSmall) rfl false ⟨#[], #[.slice none 0 0], []⟩ 8 (by kernel_rfl) (by kernel_rfl) (by kernel_rfl) (x := ([DataW.nil], [], [])) (by kernel_rfl) (by kernel_rfl) (by kernel_rfl)) ?_
  intro W base args ds gs before hval hW _ hk hsz _
  exact law_upto (P := Try.prog) (T := T) names mixed laidOut (fn := Try.f7) (s := (Rows.OpenSpec.upto Rows.scoreBestSpec).at F) (t := 34) (t0 := 4) (e := 27) (by kernel_rfl) (by kernel_rfl) Try.underlying4 Try.underlying34 (by kernel_rfl) rfl
    (fun ds h => by rcases ds with _ | ⟨d1, _ | ⟨d2, ds⟩⟩ <;> first | rfl | (simp at h)) (fun M vs hro h hf => ScoreBest_law M vs hro h hf) W base args ds gs before hval hW hk hsz
theorem over : Rows.scoreBestUptoRow.holds Try.pinned (Rows.OpenSpec.upto Rows.scoreBestSpec) :=
  OpenClaim.holds_of_cond 7 Try.f7 rfl rfl rfl rfl rfl rfl rfl ⟨rfl, rfl, rfl, rfl, rfl⟩ rfl rfl rfl rfl rfl (by kernel_rfl) Try.func7 (by kernel_rfl)
    (of_decide_eq_true (by kernel_rfl)) (by unfold Func.isWrapper; first | (rw [if_pos (by decide +kernel)]; kernel_rfl) | (rw [if_neg (by decide +kernel)]; exact ⟨rfl, rfl⟩))
    (fun os started H enc _ F => lifted os started H enc F)
end Go.Proofs.Ytpjfnpokkpapaaa.ScoreBestUptoZ
namespace Go.Proofs.Ytpjfnpokkpapaaa
theorem scoreBestUpto_holds : Rows.ScoreBestUptoSaid := ScoreBestUptoZ.over
#print axioms scoreBestUpto_holds
end Go.Proofs.Ytpjfnpokkpapaaa
