/- What the law ChainKnown needs of the text Fi. -/
import Derived.Test.YtbbfdebfhgdciaaPFh
set_option linter.unusedVariables false
set_option linter.unusedSimpArgs false
set_option maxRecDepth 100000
set_option maxHeartbeats 4000000
namespace Go.Zt
section
variable (lo : Nat)
def FrEq (f g : Fr3) : Prop := ∀ n, n < 3 → (f.at n).w = (g.at n).w ∧ (f.at n).h = (g.at n).h ∧ (f.at n).xs = (g.at n).xs
noncomputable instance (f g : Fr3) : Decidable (FrEq f g) := Classical.propDecidable _
theorem same25_ok (f g : Fr3) (M : Mem) (hf : FrIn M f) (hg : FrIn M g) (hn : ∀ n, n < 3 → (f.at n).xs.length ≤ 140737488351232) :
    Ac P T lo F.zoetropelaw25_same [.agg ⟨f.cells⟩, .agg ⟨g.cells⟩] M fun r => r = (.bool (decide (FrEq f g)), M) := by
  have no : ∀ n, n < 3 → decide ((f.at n).w = (g.at n).w ∧ (f.at n).h = (g.at n).h ∧ (f.at n).xs = (g.at n).xs) = false → (Value.bool false, M) = (Value.bool (decide (FrEq f g)), M) := fun n hn h => by
    rw [decide_eq_false (fun e => of_decide_eq_false h (e n hn))]
  refine Ac.of (Evp.of_eq (fun k => zoetropelaw25_same.entry k ..) ?_)
  refine Evp.ob (same_ok lo f.p0.w f.p0.h g.p0.w g.p0.h _ _ _ _ f.p0.xs g.p0.xs M (hf.rd 0 (by omega)) (hg.rd 0 (by omega)) (hn 0 (by omega))) ?_
  rintro _ rfl
  simp only [ret_int, ret_bool, ret_flt, ret_slc, ret_str, ret_ptr, ret_agg, ret_tup, ob_some, bb_true, bb_false, List.getElem?_cons_zero, List.getElem?_cons_succ, List.length_cons, List.length_nil, Nat.reduceAdd, Nat.reduceLT]
  refine Evp.bb (fun h0 => ?_) fun h0 => Evp.ret (Run.ret (no 0 (by omega) h0))
  refine Evp.ob (same_ok lo f.p1.w f.p1.h g.p1.w g.p1.h _ _ _ _ f.p1.xs g.p1.xs M (hf.rd 1 (by omega)) (hg.rd 1 (by omega)) (hn 1 (by omega))) ?_
  rintro _ rfl
  simp only [ret_int, ret_bool, ret_flt, ret_slc, ret_str, ret_ptr, ret_agg, ret_tup, ob_some, bb_true, bb_false, List.getElem?_cons_zero, List.getElem?_cons_succ, List.length_cons, List.length_nil, Nat.reduceAdd, Nat.reduceLT]
  refine Evp.bb (fun h1 => ?_) fun h1 => Evp.ret (Run.ret (no 1 (by omega) h1))
  refine Evp.ob (same_ok lo f.p2.w f.p2.h g.p2.w g.p2.h _ _ _ _ f.p2.xs g.p2.xs M (hf.rd 2 (by omega)) (hg.rd 2 (by omega)) (hn 2 (by omega))) ?_
  rintro _ rfl
  simp only [ret_int, ret_bool, ret_flt, ret_slc, ret_str, ret_ptr, ret_agg, ret_tup, ob_some, bb_true, bb_false, List.getElem?_cons_zero, List.getElem?_cons_succ, List.length_cons, List.length_nil, Nat.reduceAdd, Nat.reduceLT]
  refine Evp.ret (Run.ret ?_)
  congr 2
  refine decide_eq_decide.2 ⟨fun h2 n hn => ?_, fun h => h 2 (by omega)⟩
  rcases lt3 hn with rfl | rfl | rfl
  · exact of_decide_eq_true h0
  · exact of_decide_eq_true h1
  · exact h2
end
end Go.Zt
