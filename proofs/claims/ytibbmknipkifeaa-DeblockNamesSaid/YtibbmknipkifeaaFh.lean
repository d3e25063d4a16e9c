/- Edges, whole. -/
import Derived.Test.YtibbmknipkifeaaFg
set_option linter.unusedVariables false
set_option linter.unusedSimpArgs false
set_option maxRecDepth 100000
namespace Go.Zt
def edgeOf (level sharp : Int) : Int := 2 * (level + 2) + limitS level sharp
def passL (xs : List Int) (level : Int) : List Int :=
  if xs.length = 6 ∧ flatP xs 2 then wideL xs 2 1 3 (2 * 2) else if xs.length = 14 ∧ flatP xs 6 then wideL xs 6 1 4 (2 * 6) else if 8 ≤ xs.length ∧ flatP xs 3 then wideL xs 3 0 3 (2 * 3) else narrowL xs (level / 16)
def edgeL (xs : List Int) (level sharp : Int) : List Int := if level ≠ 0 ∧ smoothE xs (limitS level sharp) (edgeOf level sharp) then passL xs level else xs
def EdgeOk (n taps level sharp : Int) : Prop := (taps = 4 ∨ taps = 6 ∨ taps = 8 ∨ taps = 14) ∧ n = taps ∧ 0 ≤ level ∧ level ≤ 63 ∧ 0 ≤ sharp ∧ sharp ≤ 7
instance (n taps level sharp : Int) : Decidable (EdgeOk n taps level sharp) := inferInstanceAs (Decidable (_ ∧ _))
def EdgeR (M : Mem) (xs : List Int) (taps level sharp : Int) (r : Value × Mem) : Prop :=
  Pre M r.2 ∧ if EdgeOk xs.length taps level sharp then ∃ a cc, r.1 = .tuple ⟨[.slice (some a) xs.length cc, .int .i64 0]⟩ ∧ Buf M r.2 a ((edgeL xs level sharp).map (Value.int .u8)) else r.1 = .tuple ⟨[.slice none 0 0, .int .i64 2]⟩
section
variable (lo : Nat) (A : Option Addr) (c : Nat) (xs : List Int) (M : Mem) (level sharp : Int)
theorem redge_ok (taps : Int) (hlo : lo ≤ M.length) (hx : RdI M .u8 A xs) (bx : Bytes xs) : Ac P T lo F.zoetroperef22_Edge [.slice A xs.length c, .int .i64 taps, .int .i64 level, .int .i64 sharp] M (EdgeR M xs taps level sharp) := by
  have bad : ¬ EdgeOk xs.length taps level sharp → Run P T lo F.zoetroperef22_Edge (.ret (.tuple ⟨[.slice none 0 0, .int .i64 2]⟩) M) (EdgeR M xs taps level sharp) := fun h => Run.ret ⟨Pre.refl _, by rw [if_neg h]⟩
  have good : ∀ (a : Addr) (cc : Nat) (M' : Mem), EdgeOk xs.length taps level sharp → Pre M M' → Buf M M' a ((edgeL xs level sharp).map (Value.int .u8)) → Run P T lo F.zoetroperef22_Edge (.ret (.tuple ⟨[.slice (some a) xs.length cc, .int .i64 0]⟩) M') (EdgeR M xs taps level sharp) := fun a cc M' h hp hb => Run.ret ⟨hp, by rw [if_pos h]; exact ⟨a, cc, rfl, hb⟩⟩
  refine Ac.of (Evp.of_eq (fun k => zoetroperef22_Edge.entry k ..) ?_)
  refine Evp.neb (fun n4 => ?_) fun he => ?_
  rotate_left
  · subst he
    refine Evp.neb (fun h => Evp.ret (bad fun e => h e.2.1)) fun hl => ?_
    refine Evp.dec (fun h => Evp.ret (bad fun e => by have := e.2.2; omega)) fun l0 => ?_
    refine Evp.dec (fun h => Evp.ret (bad fun e => by have := e.2.2; omega)) fun l1 => ?_
    refine Evp.dec (fun h => Evp.ret (bad fun e => by have := e.2.2; omega)) fun s0 => ?_
    refine Evp.dec (fun h => Evp.ret (bad fun e => by have := e.2.2; omega)) fun s1 => ?_
    have ok : EdgeOk xs.length 4 level sharp := ⟨by decide, hl, by omega, by omega, by omega, by omega⟩
    have hn : xs.length = 4 := by omega
    have f := rfiltered_ok lo A c xs M level sharp hx bx (by omega) (by omega) (by omega)
    rw [hl] at f
    refine Evp.ob f ?_
    rintro _ rfl
    simp only [ret_int, ret_bool, ret_flt, ret_slc, ret_str, ret_ptr, ret_agg, ret_tup, ob_some, bb_true, bb_false, List.getElem?_cons_zero, List.getElem?_cons_succ, List.length_cons, List.length_nil, Nat.reduceAdd, Nat.reduceLT]
    refine Evp.nb (fun h => ?_) fun hs => ?_
    · refine Evp.ob (copyBytes_ok _ _ _ _ _ hx (by omega) hlo) ?_
      rintro _ ⟨A', cc, M1, rfl, p1, hcc, g1⟩
      simp only [ret_int, ret_bool, ret_flt, ret_slc, ret_str, ret_ptr, ret_agg, ret_tup, ob_some, bb_true, bb_false, List.getElem?_cons_zero, List.getElem?_cons_succ, List.length_cons, List.length_nil, Nat.reduceAdd, Nat.reduceLT]
      obtain ⟨a, rfl, hb⟩ := g1.buf (by omega)
      exact Evp.ret (good a cc M1 ok p1 (by unfold edgeL edgeOf; rw [if_neg (of_decide_eq_false h)]; exact hb))
    have hE : edgeL xs level sharp = passL xs level := by unfold edgeL edgeOf; rw [if_pos (of_decide_eq_true hs)]
    rw [hE] at good
    refine Evp.ff rfl (Evp.ff rfl ?_)
    refine Evp.ob (rnarrow_ok lo A c xs M level hlo hx bx (by omega) (by omega) (by omega) (by omega)) ?_
    rintro _ ⟨a, cc, M1, rfl, p1, hb⟩
    simp only [ret_int, ret_bool, ret_flt, ret_slc, ret_str, ret_ptr, ret_agg, ret_tup, ob_some, bb_true, bb_false, List.getElem?_cons_zero, List.getElem?_cons_succ, List.length_cons, List.length_nil, Nat.reduceAdd, Nat.reduceLT]
    exact Evp.ret (good a cc M1 ok p1 (by unfold passL; rw [if_neg (by omega), if_neg (by omega), if_neg (by omega)]; exact hb))
  refine Evp.neb (fun n6 => ?_) fun he => ?_
  rotate_left
  · subst he
    refine Evp.neb (fun h => Evp.ret (bad fun e => h e.2.1)) fun hl => ?_
    refine Evp.dec (fun h => Evp.ret (bad fun e => by have := e.2.2; omega)) fun l0 => ?_
    refine Evp.dec (fun h => Evp.ret (bad fun e => by have := e.2.2; omega)) fun l1 => ?_
    refine Evp.dec (fun h => Evp.ret (bad fun e => by have := e.2.2; omega)) fun s0 => ?_
    refine Evp.dec (fun h => Evp.ret (bad fun e => by have := e.2.2; omega)) fun s1 => ?_
    have ok : EdgeOk xs.length 6 level sharp := ⟨by decide, hl, by omega, by omega, by omega, by omega⟩
    have hn : xs.length = 6 := by omega
    have f := rfiltered_ok lo A c xs M level sharp hx bx (by omega) (by omega) (by omega)
    rw [hl] at f
    refine Evp.ob f ?_
    rintro _ rfl
    simp only [ret_int, ret_bool, ret_flt, ret_slc, ret_str, ret_ptr, ret_agg, ret_tup, ob_some, bb_true, bb_false, List.getElem?_cons_zero, List.getElem?_cons_succ, List.length_cons, List.length_nil, Nat.reduceAdd, Nat.reduceLT]
    refine Evp.nb (fun h => ?_) fun hs => ?_
    · refine Evp.ob (copyBytes_ok _ _ _ _ _ hx (by omega) hlo) ?_
      rintro _ ⟨A', cc, M1, rfl, p1, hcc, g1⟩
      simp only [ret_int, ret_bool, ret_flt, ret_slc, ret_str, ret_ptr, ret_agg, ret_tup, ob_some, bb_true, bb_false, List.getElem?_cons_zero, List.getElem?_cons_succ, List.length_cons, List.length_nil, Nat.reduceAdd, Nat.reduceLT]
      obtain ⟨a, rfl, hb⟩ := g1.buf (by omega)
      exact Evp.ret (good a cc M1 ok p1 (by unfold edgeL edgeOf; rw [if_neg (of_decide_eq_false h)]; exact hb))
    have hE : edgeL xs level sharp = passL xs level := by unfold edgeL edgeOf; rw [if_pos (of_decide_eq_true hs)]
    rw [hE] at good
    refine Evp.tt rfl ?_
    refine Evp.ob (rflat_ok lo A c xs M hx bx (by omega) 2 (by omega) (by omega)) ?_
    rintro _ rfl
    simp only [ret_int, ret_bool, ret_flt, ret_slc, ret_str, ret_ptr, ret_agg, ret_tup, ob_some, bb_true, bb_false, List.getElem?_cons_zero, List.getElem?_cons_succ, List.length_cons, List.length_nil, Nat.reduceAdd, Nat.reduceLT]
    refine Evp.dec (fun h => ?_) fun h => ?_
    · refine Evp.ob (rwide_ok (n := 2) (m := 1) (sh := 3) hlo hx bx (by omega) (by omega) (by omega) (by unfold CaseW; omega)) ?_
      rintro _ ⟨a, cc, M1, rfl, p1, hb⟩
      simp only [ret_int, ret_bool, ret_flt, ret_slc, ret_str, ret_ptr, ret_agg, ret_tup, ob_some, bb_true, bb_false, List.getElem?_cons_zero, List.getElem?_cons_succ, List.length_cons, List.length_nil, Nat.reduceAdd, Nat.reduceLT]
      exact Evp.ret (good a cc M1 ok p1 (by unfold passL; rw [if_pos ⟨hn, h⟩]; exact hb))
    · refine Evp.ff rfl ?_
      refine Evp.ob (rnarrow_ok lo A c xs M level hlo hx bx (by omega) (by omega) (by omega) (by omega)) ?_
      rintro _ ⟨a, cc, M1, rfl, p1, hb⟩
      simp only [ret_int, ret_bool, ret_flt, ret_slc, ret_str, ret_ptr, ret_agg, ret_tup, ob_some, bb_true, bb_false, List.getElem?_cons_zero, List.getElem?_cons_succ, List.length_cons, List.length_nil, Nat.reduceAdd, Nat.reduceLT]
      exact Evp.ret (good a cc M1 ok p1 (by unfold passL; rw [if_neg (fun e => h e.2), if_neg (by omega), if_neg (by omega)]; exact hb))
  refine Evp.neb (fun n8 => ?_) fun he => ?_
  rotate_left
  · subst he
    refine Evp.neb (fun h => Evp.ret (bad fun e => h e.2.1)) fun hl => ?_
    refine Evp.dec (fun h => Evp.ret (bad fun e => by have := e.2.2; omega)) fun l0 => ?_
    refine Evp.dec (fun h => Evp.ret (bad fun e => by have := e.2.2; omega)) fun l1 => ?_
    refine Evp.dec (fun h => Evp.ret (bad fun e => by have := e.2.2; omega)) fun s0 => ?_
    refine Evp.dec (fun h => Evp.ret (bad fun e => by have := e.2.2; omega)) fun s1 => ?_
    have ok : EdgeOk xs.length 8 level sharp := ⟨by decide, hl, by omega, by omega, by omega, by omega⟩
    have hn : xs.length = 8 := by omega
    have f := rfiltered_ok lo A c xs M level sharp hx bx (by omega) (by omega) (by omega)
    rw [hl] at f
    refine Evp.ob f ?_
    rintro _ rfl
    simp only [ret_int, ret_bool, ret_flt, ret_slc, ret_str, ret_ptr, ret_agg, ret_tup, ob_some, bb_true, bb_false, List.getElem?_cons_zero, List.getElem?_cons_succ, List.length_cons, List.length_nil, Nat.reduceAdd, Nat.reduceLT]
    refine Evp.nb (fun h => ?_) fun hs => ?_
    · refine Evp.ob (copyBytes_ok _ _ _ _ _ hx (by omega) hlo) ?_
      rintro _ ⟨A', cc, M1, rfl, p1, hcc, g1⟩
      simp only [ret_int, ret_bool, ret_flt, ret_slc, ret_str, ret_ptr, ret_agg, ret_tup, ob_some, bb_true, bb_false, List.getElem?_cons_zero, List.getElem?_cons_succ, List.length_cons, List.length_nil, Nat.reduceAdd, Nat.reduceLT]
      obtain ⟨a, rfl, hb⟩ := g1.buf (by omega)
      exact Evp.ret (good a cc M1 ok p1 (by unfold edgeL edgeOf; rw [if_neg (of_decide_eq_false h)]; exact hb))
    have hE : edgeL xs level sharp = passL xs level := by unfold edgeL edgeOf; rw [if_pos (of_decide_eq_true hs)]
    rw [hE] at good
    refine Evp.ff rfl (Evp.tt rfl ?_)
    refine Evp.ob (rflat_ok lo A c xs M hx bx (by omega) 3 (by omega) (by omega)) ?_
    rintro _ rfl
    simp only [ret_int, ret_bool, ret_flt, ret_slc, ret_str, ret_ptr, ret_agg, ret_tup, ob_some, bb_true, bb_false, List.getElem?_cons_zero, List.getElem?_cons_succ, List.length_cons, List.length_nil, Nat.reduceAdd, Nat.reduceLT]
    refine Evp.dec (fun h => ?_) fun h => ?_
    · refine Evp.ff rfl ?_
      refine Evp.ob (rwide_ok (n := 3) (m := 0) (sh := 3) hlo hx bx (by omega) (by omega) (by omega) (by unfold CaseW; omega)) ?_
      rintro _ ⟨a, cc, M1, rfl, p1, hb⟩
      simp only [ret_int, ret_bool, ret_flt, ret_slc, ret_str, ret_ptr, ret_agg, ret_tup, ob_some, bb_true, bb_false, List.getElem?_cons_zero, List.getElem?_cons_succ, List.length_cons, List.length_nil, Nat.reduceAdd, Nat.reduceLT]
      exact Evp.ret (good a cc M1 ok p1 (by unfold passL; rw [if_neg (by omega), if_neg (by omega), if_pos ⟨by omega, h⟩]; exact hb))
    · refine Evp.ob (rnarrow_ok lo A c xs M level hlo hx bx (by omega) (by omega) (by omega) (by omega)) ?_
      rintro _ ⟨a, cc, M1, rfl, p1, hb⟩
      simp only [ret_int, ret_bool, ret_flt, ret_slc, ret_str, ret_ptr, ret_agg, ret_tup, ob_some, bb_true, bb_false, List.getElem?_cons_zero, List.getElem?_cons_succ, List.length_cons, List.length_nil, Nat.reduceAdd, Nat.reduceLT]
      exact Evp.ret (good a cc M1 ok p1 (by unfold passL; rw [if_neg (by omega), if_neg (by omega), if_neg (fun e => h e.2)]; exact hb))
  refine Evp.neb (fun n14 => ?_) fun he => ?_
  rotate_left
  · subst he
    refine Evp.neb (fun h => Evp.ret (bad fun e => h e.2.1)) fun hl => ?_
    refine Evp.dec (fun h => Evp.ret (bad fun e => by have := e.2.2; omega)) fun l0 => ?_
    refine Evp.dec (fun h => Evp.ret (bad fun e => by have := e.2.2; omega)) fun l1 => ?_
    refine Evp.dec (fun h => Evp.ret (bad fun e => by have := e.2.2; omega)) fun s0 => ?_
    refine Evp.dec (fun h => Evp.ret (bad fun e => by have := e.2.2; omega)) fun s1 => ?_
    have ok : EdgeOk xs.length 14 level sharp := ⟨by decide, hl, by omega, by omega, by omega, by omega⟩
    have hn : xs.length = 14 := by omega
    have f := rfiltered_ok lo A c xs M level sharp hx bx (by omega) (by omega) (by omega)
    rw [hl] at f
    refine Evp.ob f ?_
    rintro _ rfl
    simp only [ret_int, ret_bool, ret_flt, ret_slc, ret_str, ret_ptr, ret_agg, ret_tup, ob_some, bb_true, bb_false, List.getElem?_cons_zero, List.getElem?_cons_succ, List.length_cons, List.length_nil, Nat.reduceAdd, Nat.reduceLT]
    refine Evp.nb (fun h => ?_) fun hs => ?_
    · refine Evp.ob (copyBytes_ok _ _ _ _ _ hx (by omega) hlo) ?_
      rintro _ ⟨A', cc, M1, rfl, p1, hcc, g1⟩
      simp only [ret_int, ret_bool, ret_flt, ret_slc, ret_str, ret_ptr, ret_agg, ret_tup, ob_some, bb_true, bb_false, List.getElem?_cons_zero, List.getElem?_cons_succ, List.length_cons, List.length_nil, Nat.reduceAdd, Nat.reduceLT]
      obtain ⟨a, rfl, hb⟩ := g1.buf (by omega)
      exact Evp.ret (good a cc M1 ok p1 (by unfold edgeL edgeOf; rw [if_neg (of_decide_eq_false h)]; exact hb))
    have hE : edgeL xs level sharp = passL xs level := by unfold edgeL edgeOf; rw [if_pos (of_decide_eq_true hs)]
    rw [hE] at good
    refine Evp.ff rfl (Evp.tt rfl ?_)
    refine Evp.ob (rflat_ok lo A c xs M hx bx (by omega) 3 (by omega) (by omega)) ?_
    rintro _ rfl
    simp only [ret_int, ret_bool, ret_flt, ret_slc, ret_str, ret_ptr, ret_agg, ret_tup, ob_some, bb_true, bb_false, List.getElem?_cons_zero, List.getElem?_cons_succ, List.length_cons, List.length_nil, Nat.reduceAdd, Nat.reduceLT]
    refine Evp.dec (fun h => ?_) fun h => ?_
    · refine Evp.tt rfl ?_
      have f46 : Ac P T lo F.zoetroperef22_flat [.slice A xs.length c, .int .i64 4, .int .i64 6] M fun r => r = (.bool (decide (flatP xs 6)), M) := by
        refine Ac.of (Evp.of_eq (fun k => zoetroperef22_flat.entry k ..) ?_)
        exact Evp.ret (rflat_loop lo A c xs M hx bx (by omega) 6 (by omega) (by omega) 3 3 rfl (by omega) h)
      refine Evp.ob f46 ?_
      rintro _ rfl
      simp only [ret_int, ret_bool, ret_flt, ret_slc, ret_str, ret_ptr, ret_agg, ret_tup, ob_some, bb_true, bb_false, List.getElem?_cons_zero, List.getElem?_cons_succ, List.length_cons, List.length_nil, Nat.reduceAdd, Nat.reduceLT]
      refine Evp.dec (fun h6 => ?_) fun h6 => ?_
      · refine Evp.ob (rwide_ok (n := 6) (m := 1) (sh := 4) hlo hx bx (by omega) (by omega) (by omega) (by unfold CaseW; omega)) ?_
        rintro _ ⟨a, cc, M1, rfl, p1, hb⟩
        simp only [ret_int, ret_bool, ret_flt, ret_slc, ret_str, ret_ptr, ret_agg, ret_tup, ob_some, bb_true, bb_false, List.getElem?_cons_zero, List.getElem?_cons_succ, List.length_cons, List.length_nil, Nat.reduceAdd, Nat.reduceLT]
        exact Evp.ret (good a cc M1 ok p1 (by unfold passL; rw [if_neg (by omega), if_pos ⟨hn, h6⟩]; exact hb))
      · refine Evp.ob (rwide_ok (n := 3) (m := 0) (sh := 3) hlo hx bx (by omega) (by omega) (by omega) (by unfold CaseW; omega)) ?_
        rintro _ ⟨a, cc, M1, rfl, p1, hb⟩
        simp only [ret_int, ret_bool, ret_flt, ret_slc, ret_str, ret_ptr, ret_agg, ret_tup, ob_some, bb_true, bb_false, List.getElem?_cons_zero, List.getElem?_cons_succ, List.length_cons, List.length_nil, Nat.reduceAdd, Nat.reduceLT]
        exact Evp.ret (good a cc M1 ok p1 (by unfold passL; rw [if_neg (by omega), if_neg (fun e => h6 e.2), if_pos ⟨by omega, h⟩]; exact hb))
    · refine Evp.ob (rnarrow_ok lo A c xs M level hlo hx bx (by omega) (by omega) (by omega) (by omega)) ?_
      rintro _ ⟨a, cc, M1, rfl, p1, hb⟩
      simp only [ret_int, ret_bool, ret_flt, ret_slc, ret_str, ret_ptr, ret_agg, ret_tup, ob_some, bb_true, bb_false, List.getElem?_cons_zero, List.getElem?_cons_succ, List.length_cons, List.length_nil, Nat.reduceAdd, Nat.reduceLT]
      exact Evp.ret (good a cc M1 ok p1 (by unfold passL; rw [if_neg (by omega), if_neg (fun e => h (flatP_mono (by omega) e.2)), if_neg (fun e => h e.2)]; exact hb))
  exact Evp.ret (bad fun e => by have := e.1; omega)
end
end Go.Zt
