/- Edges that stay; flat sides. -/
import Derived.Test.YtibbmknipkifeaaFa
set_option linter.unusedVariables false
set_option linter.unusedSimpArgs false
set_option maxRecDepth 100000
namespace Go.Zt
/-- The steps next to the edge, up to one, are small. -/
def smallE (xs : List Int) (lim : Int) : Nat → Prop
  | 0 => True
  | k + 1 => smallE xs lim k ∧ farE xs (-2 - k) (-1 - k) ≤ lim ∧ farE xs (k + 1) k ≤ lim
instance decSmall (xs : List Int) (lim : Int) : (k : Nat) → Decidable (smallE xs lim k)
  | 0 => isTrue trivial
  | k + 1 => by
    have := decSmall xs lim k
    unfold smallE
    exact inferInstance
def smoothE (xs : List Int) (lim edge : Int) : Prop := smallE xs lim (min (xs.length / 2) 4 - 1) ∧ 2 * farE xs (-1) 0 + farE xs (-2) 1 / 2 ≤ edge
instance (xs : List Int) (lim edge : Int) : Decidable (smoothE xs lim edge) := inferInstanceAs (Decidable (_ ∧ _))
theorem smallE_mono {xs : List Int} {lim : Int} : ∀ {n k : Nat}, k ≤ n → smallE xs lim n → smallE xs lim k
  | 0, k, h, hs => by obtain rfl : k = 0 := by omega
                      exact hs
  | n + 1, k, h, hs => by
    by_cases e : k = n + 1
    · subst e; exact hs
    · exact smallE_mono (by omega) hs.1
theorem farE_le {xs : List Int} (bx : Bytes xs) (i k : Int) : 0 ≤ farE xs i k ∧ farE xs i k ≤ 255 := by
  have h1 := atE_le xs bx i
  have h2 := atE_le xs bx k
  unfold farE absS
  split <;> omega
section
variable (lo : Nat) (A : Option Addr) (c : Nat) (xs : List Int) (M : Mem)
theorem rough_loop (hx : RdI M .u8 A xs) (bx : Bytes xs) (hn : xs.length ≤ 1000) (h4 : 4 ≤ xs.length) (lim edge t : Int) :
    ∀ (d k : Nat), min (xs.length / 2) 4 - 1 - k = d → k ≤ min (xs.length / 2) 4 - 1 → smallE xs lim k →
    Run P T lo F.deblock_line_rough (deblock_line_rough.c116 ((min (xs.length / 2) 4 : Nat) : Int) ((k + 1 : Nat) : Int) A xs.length c ((xs.length / 2 : Nat) : Int) lim edge t M) fun r => r = (.bool (decide (¬ smoothE xs lim edge)), M) := by
  intro d
  induction d with
  | zero =>
    intro k hd hk hs
    obtain rfl : k = min (xs.length / 2) 4 - 1 := by omega
    refine Run.cut (Evp.of_eq (fun k => deblock_line_rough.p116 k ..) ?_)
    refine Evp.dec (fun h => absurd h (by omega)) fun _ => ?_
    refine Evp.ob (p_ok _ _ _ _ _ hx hn 0 (by omega) (by omega)) ?_
    rintro _ rfl
    simp only [ret_int, ret_bool, ret_flt, ret_slc, ret_str, ret_ptr, ret_agg, ret_tup, ob_some, bb_true, bb_false, List.getElem?_cons_zero, List.getElem?_cons_succ, List.length_cons, List.length_nil, Nat.reduceAdd, Nat.reduceLT]
    refine Evp.ob (q_ok _ _ _ _ _ hx hn 0 (by omega) (by omega)) ?_
    rintro _ rfl
    simp only [ret_int, ret_bool, ret_flt, ret_slc, ret_str, ret_ptr, ret_agg, ret_tup, ob_some, bb_true, bb_false, List.getElem?_cons_zero, List.getElem?_cons_succ, List.length_cons, List.length_nil, Nat.reduceAdd, Nat.reduceLT]
    refine Evp.ob (far_ok _ _ _ _ (atE_le xs bx _) (atE_le xs bx _)) ?_
    rintro _ rfl
    simp only [ret_int, ret_bool, ret_flt, ret_slc, ret_str, ret_ptr, ret_agg, ret_tup, ob_some, bb_true, bb_false, List.getElem?_cons_zero, List.getElem?_cons_succ, List.length_cons, List.length_nil, Nat.reduceAdd, Nat.reduceLT]
    refine Evp.ob (p_ok _ _ _ _ _ hx hn 1 (by omega) (by omega)) ?_
    rintro _ rfl
    simp only [ret_int, ret_bool, ret_flt, ret_slc, ret_str, ret_ptr, ret_agg, ret_tup, ob_some, bb_true, bb_false, List.getElem?_cons_zero, List.getElem?_cons_succ, List.length_cons, List.length_nil, Nat.reduceAdd, Nat.reduceLT]
    refine Evp.ob (q_ok _ _ _ _ _ hx hn 1 (by omega) (by omega)) ?_
    rintro _ rfl
    simp only [ret_int, ret_bool, ret_flt, ret_slc, ret_str, ret_ptr, ret_agg, ret_tup, ob_some, bb_true, bb_false, List.getElem?_cons_zero, List.getElem?_cons_succ, List.length_cons, List.length_nil, Nat.reduceAdd, Nat.reduceLT]
    refine Evp.ob (far_ok _ _ _ _ (atE_le xs bx _) (atE_le xs bx _)) ?_
    rintro _ rfl
    simp only [ret_int, ret_bool, ret_flt, ret_slc, ret_str, ret_ptr, ret_agg, ret_tup, ob_some, bb_true, bb_false, List.getElem?_cons_zero, List.getElem?_cons_succ, List.length_cons, List.length_nil, Nat.reduceAdd, Nat.reduceLT]
    have f1 := farE_le bx (-1) 0
    have f2 := farE_le bx (-2) 1
    rw [show (-1 - 0 : Int) = -1 by omega, show (-1 - 1 : Int) = -2 by omega, show absS (atE xs (-1) - atE xs 0) = farE xs (-1) 0 from rfl, show absS (atE xs (-2) - atE xs 1) = farE xs (-2) 1 from rfl, Int.tdiv_eq_ediv_of_nonneg f2.1, w64 (x := 2 * farE xs (-1) 0) (by omega), w64 (x := farE xs (-2) 1 / 2) (by omega), w64 (x := 2 * farE xs (-1) 0 + farE xs (-2) 1 / 2) (by omega)]
    refine Evp.ret (Run.ret ?_)
    congr 2
    refine decide_eq_decide.2 ⟨fun h e => by have := e.2; omega, fun h => ?_⟩
    by_cases hh : 2 * farE xs (-1) 0 + farE xs (-2) 1 / 2 > edge
    · exact hh
    · exact absurd ⟨hs, by omega⟩ h
  | succ d ih =>
    intro k hd hk hs
    have bad : ¬ (farE xs (-2 - k) (-1 - k) ≤ lim ∧ farE xs (k + 1) k ≤ lim) → ¬ smoothE xs lim edge := fun h e => h (smallE_mono (k := k + 1) (by omega) e.1).2
    refine Run.cut (Evp.of_eq (fun k => deblock_line_rough.p116 k ..) ?_)
    refine Evp.dec (fun _ => ?_) fun h => absurd h (by omega)
    rw [w64 (x := ((k + 1 : Nat) : Int) - 1) (by omega)]
    refine Evp.ob (p_ok _ _ _ _ _ hx hn ((k + 1 : Nat) : Int) (by omega) (by omega)) ?_
    rintro _ rfl
    simp only [ret_int, ret_bool, ret_flt, ret_slc, ret_str, ret_ptr, ret_agg, ret_tup, ob_some, bb_true, bb_false, List.getElem?_cons_zero, List.getElem?_cons_succ, List.length_cons, List.length_nil, Nat.reduceAdd, Nat.reduceLT]
    refine Evp.ob (p_ok _ _ _ _ _ hx hn (((k + 1 : Nat) : Int) - 1) (by omega) (by omega)) ?_
    rintro _ rfl
    simp only [ret_int, ret_bool, ret_flt, ret_slc, ret_str, ret_ptr, ret_agg, ret_tup, ob_some, bb_true, bb_false, List.getElem?_cons_zero, List.getElem?_cons_succ, List.length_cons, List.length_nil, Nat.reduceAdd, Nat.reduceLT]
    refine Evp.ob (far_ok _ _ _ _ (atE_le xs bx _) (atE_le xs bx _)) ?_
    rintro _ rfl
    simp only [ret_int, ret_bool, ret_flt, ret_slc, ret_str, ret_ptr, ret_agg, ret_tup, ob_some, bb_true, bb_false, List.getElem?_cons_zero, List.getElem?_cons_succ, List.length_cons, List.length_nil, Nat.reduceAdd, Nat.reduceLT]
    rw [show -1 - ((k + 1 : Nat) : Int) = -2 - k by omega, show -1 - (((k + 1 : Nat) : Int) - 1) = -1 - k by omega]
    refine Evp.dec (fun h => Evp.ret (Run.ret ?_)) fun g1 => ?_
    · rw [decide_eq_true (bad fun e => by have := e.1; unfold farE at this; omega)]
    refine Evp.ob (q_ok _ _ _ _ _ hx hn ((k + 1 : Nat) : Int) (by omega) (by omega)) ?_
    rintro _ rfl
    simp only [ret_int, ret_bool, ret_flt, ret_slc, ret_str, ret_ptr, ret_agg, ret_tup, ob_some, bb_true, bb_false, List.getElem?_cons_zero, List.getElem?_cons_succ, List.length_cons, List.length_nil, Nat.reduceAdd, Nat.reduceLT]
    refine Evp.ob (q_ok _ _ _ _ _ hx hn (((k + 1 : Nat) : Int) - 1) (by omega) (by omega)) ?_
    rintro _ rfl
    simp only [ret_int, ret_bool, ret_flt, ret_slc, ret_str, ret_ptr, ret_agg, ret_tup, ob_some, bb_true, bb_false, List.getElem?_cons_zero, List.getElem?_cons_succ, List.length_cons, List.length_nil, Nat.reduceAdd, Nat.reduceLT]
    refine Evp.ob (far_ok _ _ _ _ (atE_le xs bx _) (atE_le xs bx _)) ?_
    rintro _ rfl
    simp only [ret_int, ret_bool, ret_flt, ret_slc, ret_str, ret_ptr, ret_agg, ret_tup, ob_some, bb_true, bb_false, List.getElem?_cons_zero, List.getElem?_cons_succ, List.length_cons, List.length_nil, Nat.reduceAdd, Nat.reduceLT]
    rw [show ((k + 1 : Nat) : Int) - 1 = k by omega]
    refine Evp.dec (fun h => Evp.ret (Run.ret ?_)) fun g2 => ?_
    · rw [decide_eq_true (bad fun e => by have := e.2; unfold farE at this; rw [show ((k + 1 : Nat) : Int) = (k : Int) + 1 by omega] at h; omega)]
    rw [w64 (x := ((k + 1 : Nat) : Int) + 1) (by omega)]
    refine Evp.ret (ih (k + 1) (by omega) (by omega) ⟨hs, ?_, ?_⟩)
    · unfold farE; omega
    · unfold farE; rw [show ((k + 1 : Nat) : Int) = (k : Int) + 1 by omega] at g2; omega
theorem rough_ok (hx : RdI M .u8 A xs) (bx : Bytes xs) (hn : xs.length ≤ 1000) (h4 : 4 ≤ xs.length) (lim edge t : Int) :
    Ac P T lo F.deblock_line_rough [.agg ⟨[.slice A xs.length c, .int .i64 ((xs.length / 2 : Nat) : Int)]⟩, .agg ⟨[.int .i64 lim, .int .i64 edge, .int .i64 t]⟩] M fun r => r = (.bool (decide (¬ smoothE xs lim edge)), M) := by
  have e : Int.tdiv (xs.length : Int) 2 = ((xs.length / 2 : Nat) : Int) := rfl
  have e2 : minI ((xs.length / 2 : Nat) : Int) 4 = ((min (xs.length / 2) 4 : Nat) : Int) := by unfold minI; split <;> omega
  refine Ac.of (Evp.of_eq (fun k => deblock_line_rough.entry k ..) ?_)
  rw [e, w64 (x := ((xs.length / 2 : Nat) : Int)) (by omega), e2]
  exact Evp.ret (rough_loop lo A c xs M hx bx hn h4 lim edge t _ 0 rfl (by omega) trivial)
end
end Go.Zt
