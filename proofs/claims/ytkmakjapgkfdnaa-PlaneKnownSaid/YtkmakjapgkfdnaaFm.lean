/- The law that Frame, Whole, Coded, Crop answer as the chapter says. -/
import Derived.Test.YtkmakjapgkfdnaaFl
set_option linter.unusedVariables false
set_option linter.unusedSimpArgs false
set_option maxRecDepth 100000
namespace Go.Zt
section
variable (lo : Nat) (w0 h0 w1 h1 w2 h2 : Int) (A0 A1 A2 : Option Addr) (c0 c1 c2 : Nat) (xs ys zs : List Int) (M : Mem)
theorem whole_nat (hw : WholeP w0 h0 xs.length w1 h1 ys.length w2 h2 zs.length) : ∃ w h : Nat, w0 = w ∧ h0 = h ∧ w1 = (w / 2 : Nat) ∧ h1 = (h / 2 : Nat) ∧ w2 = (w / 2 : Nat) ∧ h2 = (h / 2 : Nat) ∧ (sideP w ∧ sideP h) ∧ xs.length = w * h ∧ ys.length = (w / 2) * (h / 2) ∧ zs.length = (w / 2) * (h / 2) := by
  obtain ⟨k0, s1, s2, k1, e1, e2, k2, e3, e4⟩ := hw
  have s1' := s1
  have s2' := s2
  unfold sideP at s1' s2'
  obtain ⟨w, rfl⟩ := Int.eq_ofNat_of_zero_le (a := w0) (by omega)
  obtain ⟨h, rfl⟩ := Int.eq_ofNat_of_zero_le (a := h0) (by omega)
  have d0 := (checkS_len' k0).2.2.2.2
  have d1 := (checkS_len' k1).2.2.2.2
  have d2 := (checkS_len' k2).2.2.2.2
  have f1 : w1 = ((w / 2 : Nat) : Int) := e1
  have f2 : h1 = ((h / 2 : Nat) : Int) := e2
  have f3 : w2 = ((w / 2 : Nat) : Int) := e3
  have f4 : h2 = ((h / 2 : Nat) : Int) := e4
  rw [f1, f2, ← Int.natCast_mul] at d1
  rw [f3, f4, ← Int.natCast_mul] at d2
  rw [← Int.natCast_mul] at d0
  exact ⟨w, h, rfl, rfl, f1, f2, f3, f4, ⟨s1, s2⟩, by omega, by omega, by omega⟩
def codedS : F3 := if WholeP w0 h0 xs.length w1 h1 ys.length w2 h2 zs.length then resF w0.toNat h0.toNat ((w0.toNat + 7) / 8 * 8) ((h0.toNat + 7) / 8 * 8) xs ys zs else noF
def cropS (W H : Int) : F3 := if WholeP w0 h0 xs.length w1 h1 ys.length w2 h2 zs.length ∧ (sideP W ∧ sideP H) ∧ W ≤ w0 ∧ H ≤ h0 then resF w0.toNat h0.toNat W.toNat H.toNat xs ys zs else noF
theorem coded_side {n : Nat} (h : sideP n) : sideP ((n + 7) / 8 * 8 : Nat) := by unfold sideP at *; omega
theorem wholeS_pos (hw : WholeP w0 h0 xs.length w1 h1 ys.length w2 h2 zs.length) : wholeS w0 h0 xs.length w1 h1 ys.length w2 h2 zs.length = 0 := by unfold wholeS; rw [if_pos hw]
theorem wholeS_neg (hw : ¬ WholeP w0 h0 xs.length w1 h1 ys.length w2 h2 zs.length) : wholeS w0 h0 xs.length w1 h1 ys.length w2 h2 zs.length = 2 := by unfold wholeS; rw [if_neg hw]
theorem pcoded_ok (hlo : lo ≤ M.length) (hx : RdI M .u8 A0 xs) (hy : RdI M .u8 A1 ys) (hz : RdI M .u8 A2 zs) (hc0 : xs.length ≤ c0) (hc1 : ys.length ≤ c1) (hc2 : zs.length ≤ c2) :
    Ac P T lo F.plane_Coded [.agg ⟨[.int .i64 w0, .int .i64 h0, .slice A0 xs.length c0, .int .i64 w1, .int .i64 h1, .slice A1 ys.length c1, .int .i64 w2, .int .i64 h2, .slice A2 zs.length c2]⟩] M (FrameOut (codedS w0 h0 w1 h1 w2 h2 xs ys zs) M) := by
  by_cases hw : WholeP w0 h0 xs.length w1 h1 ys.length w2 h2 zs.length
  · have e : codedS w0 h0 w1 h1 w2 h2 xs ys zs = resF w0.toNat h0.toNat ((w0.toNat + 7) / 8 * 8) ((h0.toNat + 7) / 8 * 8) xs ys zs := by unfold codedS; rw [if_pos hw]
    rw [e]
    obtain ⟨w, h, rfl, rfl, rfl, rfl, rfl, rfl, hs, n0, n1, n2⟩ := whole_nat _ _ _ _ _ _ _ _ _ hw
    simp only [Int.toNat_natCast]
    refine Ac.mono (coded_nat lo w h A0 A1 A2 c0 c1 c2 xs ys zs M hlo hx hy hz hc0 hc1 hc2 hs n0 n1 n2 _ _ rfl rfl) ?_
    rintro _ ⟨a0, a1, a2, M', rfl, hp, hb⟩
    exact res_out w h _ _ xs ys zs M ⟨coded_side hs.1, coded_side hs.2⟩ hp hb
  · have e : codedS w0 h0 w1 h1 w2 h2 xs ys zs = noF := by unfold codedS; rw [if_neg hw]
    rw [e]
    refine Ac.of (Evp.of_eq (fun k => plane_Coded.entry k ..) ?_)
    refine Evp.ob (whole_ok ..) ?_
    rintro _ rfl
    simp only [ret_int, ret_bool, ret_flt, ret_slc, ret_str, ret_ptr, ret_agg, ret_tup, ob_some, bb_true, bb_false, List.getElem?_cons_zero, List.getElem?_cons_succ, List.length_cons, List.length_nil, Nat.reduceAdd, Nat.reduceLT]
    rw [wholeS_neg _ _ _ _ _ _ _ _ _ hw]
    refine Evp.tt rfl ?_
    exact Evp.ret (Run.ret noF_out)
theorem rcoded_ok (hlo : lo ≤ M.length) (hx : RdI M .u8 A0 xs) (hy : RdI M .u8 A1 ys) (hz : RdI M .u8 A2 zs) :
    Ac P T lo F.zoetroperef05_Coded [.agg ⟨[.int .i64 w0, .int .i64 h0, .slice A0 xs.length c0, .int .i64 w1, .int .i64 h1, .slice A1 ys.length c1, .int .i64 w2, .int .i64 h2, .slice A2 zs.length c2]⟩] M (FrameOut (codedS w0 h0 w1 h1 w2 h2 xs ys zs) M) := by
  by_cases hw : WholeP w0 h0 xs.length w1 h1 ys.length w2 h2 zs.length
  · have e : codedS w0 h0 w1 h1 w2 h2 xs ys zs = resF w0.toNat h0.toNat ((w0.toNat + 7) / 8 * 8) ((h0.toNat + 7) / 8 * 8) xs ys zs := by unfold codedS; rw [if_pos hw]
    rw [e]
    have hw' := hw
    obtain ⟨w, h, rfl, rfl, rfl, rfl, rfl, rfl, hs, n0, n1, n2⟩ := whole_nat _ _ _ _ _ _ _ _ _ hw
    have hs' := hs
    unfold sideP at hs'
    simp only [Int.toNat_natCast]
    refine Ac.of (Evp.of_eq (fun k => zoetroperef05_Coded.entry k ..) ?_)
    refine Evp.ob (rwhole_ok ..) ?_
    rintro _ rfl
    simp only [ret_int, ret_bool, ret_flt, ret_slc, ret_str, ret_ptr, ret_agg, ret_tup, ob_some, bb_true, bb_false, List.getElem?_cons_zero, List.getElem?_cons_succ, List.length_cons, List.length_nil, Nat.reduceAdd, Nat.reduceLT]
    rw [wholeS_pos _ _ _ _ _ _ _ _ _ hw']
    refine Evp.ff rfl ?_
    have e1 : (w : Int) + 7 = ((w + 7 : Nat) : Int) := rfl
    have e2 : (h : Int) + 7 = ((h + 7 : Nat) : Int) := rfl
    have t1 : Int.tdiv ((w + 7 : Nat) : Int) 8 = (((w + 7) / 8 : Nat) : Int) := rfl
    have t2 : Int.tdiv ((h + 7 : Nat) : Int) 8 = (((h + 7) / 8 : Nat) : Int) := rfl
    have m1 : (((w + 7) / 8 : Nat) : Int) * 8 = (((w + 7) / 8 * 8 : Nat) : Int) := by omega
    have m2 : (((h + 7) / 8 : Nat) : Int) * 8 = (((h + 7) / 8 * 8 : Nat) : Int) := by omega
    rw [e1, e2, w64 (x := ((w + 7 : Nat) : Int)) (by omega), w64 (x := ((h + 7 : Nat) : Int)) (by omega), t1, t2, w64 (x := (((w + 7) / 8 : Nat) : Int)) (by omega), w64 (x := (((h + 7) / 8 : Nat) : Int)) (by omega), m1, m2, w64 (x := (((w + 7) / 8 * 8 : Nat) : Int)) (by omega), w64 (x := (((h + 7) / 8 * 8 : Nat) : Int)) (by omega)]
    refine Evp.ob (rresized_ok lo w h _ _ A0 A1 A2 c0 c1 c2 xs ys zs M hlo hx hy hz hw'.1 hw'.2.2.2.1 hw'.2.2.2.2.2.2.1 ⟨coded_side hs.1, coded_side hs.2⟩) ?_
    rintro _ ⟨a0, a1, a2, M', rfl, hp, hb⟩
    simp only [ret_int, ret_bool, ret_flt, ret_slc, ret_str, ret_ptr, ret_agg, ret_tup, ob_some, bb_true, bb_false, List.getElem?_cons_zero, List.getElem?_cons_succ, List.length_cons, List.length_nil, Nat.reduceAdd, Nat.reduceLT]
    exact Evp.ret (Run.ret (res_out w h _ _ xs ys zs M ⟨coded_side hs.1, coded_side hs.2⟩ hp hb))
  · have e : codedS w0 h0 w1 h1 w2 h2 xs ys zs = noF := by unfold codedS; rw [if_neg hw]
    rw [e]
    refine Ac.of (Evp.of_eq (fun k => zoetroperef05_Coded.entry k ..) ?_)
    refine Evp.ob (rwhole_ok ..) ?_
    rintro _ rfl
    simp only [ret_int, ret_bool, ret_flt, ret_slc, ret_str, ret_ptr, ret_agg, ret_tup, ob_some, bb_true, bb_false, List.getElem?_cons_zero, List.getElem?_cons_succ, List.length_cons, List.length_nil, Nat.reduceAdd, Nat.reduceLT]
    rw [wholeS_neg _ _ _ _ _ _ _ _ _ hw]
    refine Evp.tt rfl ?_
    exact Evp.ret (Run.ret noF_out)
variable (W H : Int)
theorem pcrop_ok (hlo : lo ≤ M.length) (hx : RdI M .u8 A0 xs) (hy : RdI M .u8 A1 ys) (hz : RdI M .u8 A2 zs) (hc0 : xs.length ≤ c0) (hc1 : ys.length ≤ c1) (hc2 : zs.length ≤ c2) :
    Ac P T lo F.plane_Crop [.agg ⟨[.int .i64 w0, .int .i64 h0, .slice A0 xs.length c0, .int .i64 w1, .int .i64 h1, .slice A1 ys.length c1, .int .i64 w2, .int .i64 h2, .slice A2 zs.length c2]⟩, .int .i64 W, .int .i64 H] M (FrameOut (cropS w0 h0 w1 h1 w2 h2 xs ys zs W H) M) := by
  have bad : ¬ (WholeP w0 h0 xs.length w1 h1 ys.length w2 h2 zs.length ∧ (sideP W ∧ sideP H) ∧ W ≤ w0 ∧ H ≤ h0) → cropS w0 h0 w1 h1 w2 h2 xs ys zs W H = noF := fun h => by unfold cropS; rw [if_neg h]
  refine Ac.of (Evp.of_eq (fun k => plane_Crop.entry k ..) ?_)
  refine Evp.ob (whole_ok ..) ?_
  rintro _ rfl
  simp only [ret_int, ret_bool, ret_flt, ret_slc, ret_str, ret_ptr, ret_agg, ret_tup, ob_some, bb_true, bb_false, List.getElem?_cons_zero, List.getElem?_cons_succ, List.length_cons, List.length_nil, Nat.reduceAdd, Nat.reduceLT]
  by_cases hw : WholeP w0 h0 xs.length w1 h1 ys.length w2 h2 zs.length
  · rw [wholeS_pos _ _ _ _ _ _ _ _ _ hw]
    refine Evp.ff rfl ?_
    refine Evp.ob (sides_ok ..) ?_
    rintro _ rfl
    simp only [ret_int, ret_bool, ret_flt, ret_slc, ret_str, ret_ptr, ret_agg, ret_tup, ob_some, bb_true, bb_false, List.getElem?_cons_zero, List.getElem?_cons_succ, List.length_cons, List.length_nil, Nat.reduceAdd, Nat.reduceLT]
    refine Evp.nb (fun h => Evp.ret (by rw [bad fun e => of_decide_eq_false h e.2.1]; exact Run.ret noF_out)) fun hs0 => ?_
    have hS := of_decide_eq_true hs0
    refine Evp.dec (fun h => Evp.ret (by rw [bad fun e => by omega]; exact Run.ret noF_out)) fun g1 => ?_
    refine Evp.dec (fun h => Evp.ret (by rw [bad fun e => by omega]; exact Run.ret noF_out)) fun g2 => ?_
    have e : cropS w0 h0 w1 h1 w2 h2 xs ys zs W H = resF w0.toNat h0.toNat W.toNat H.toNat xs ys zs := by unfold cropS; rw [if_pos ⟨hw, hS, by omega, by omega⟩]
    rw [e]
    obtain ⟨w, h, rfl, rfl, rfl, rfl, rfl, rfl, hs, n0, n1, n2⟩ := whole_nat _ _ _ _ _ _ _ _ _ hw
    have hS' := hS
    unfold sideP at hS'
    obtain ⟨W, rfl⟩ := Int.eq_ofNat_of_zero_le (a := W) (by omega)
    obtain ⟨H, rfl⟩ := Int.eq_ofNat_of_zero_le (a := H) (by omega)
    simp only [Int.toNat_natCast]
    refine Evp.ob (resized_ok lo w h W H A0 A1 A2 c0 c1 c2 xs ys zs M hlo hx hy hz hc0 hc1 hc2 hs hS n0 n1 n2) ?_
    rintro _ ⟨a0, a1, a2, M', rfl, hp, hb⟩
    simp only [ret_int, ret_bool, ret_flt, ret_slc, ret_str, ret_ptr, ret_agg, ret_tup, ob_some, bb_true, bb_false, List.getElem?_cons_zero, List.getElem?_cons_succ, List.length_cons, List.length_nil, Nat.reduceAdd, Nat.reduceLT]
    exact Evp.ret (Run.ret (res_out w h W H xs ys zs M hS hp hb))
  · rw [wholeS_neg _ _ _ _ _ _ _ _ _ hw, bad fun e => hw e.1]
    refine Evp.tt rfl ?_
    exact Evp.ret (Run.ret noF_out)
theorem rcrop_ok (hlo : lo ≤ M.length) (hx : RdI M .u8 A0 xs) (hy : RdI M .u8 A1 ys) (hz : RdI M .u8 A2 zs) :
    Ac P T lo F.zoetroperef05_Crop [.agg ⟨[.int .i64 w0, .int .i64 h0, .slice A0 xs.length c0, .int .i64 w1, .int .i64 h1, .slice A1 ys.length c1, .int .i64 w2, .int .i64 h2, .slice A2 zs.length c2]⟩, .int .i64 W, .int .i64 H] M (FrameOut (cropS w0 h0 w1 h1 w2 h2 xs ys zs W H) M) := by
  have bad : ¬ (WholeP w0 h0 xs.length w1 h1 ys.length w2 h2 zs.length ∧ (sideP W ∧ sideP H) ∧ W ≤ w0 ∧ H ≤ h0) → cropS w0 h0 w1 h1 w2 h2 xs ys zs W H = noF := fun h => by unfold cropS; rw [if_neg h]
  refine Ac.of (Evp.of_eq (fun k => zoetroperef05_Crop.entry k ..) ?_)
  refine Evp.ob (rwhole_ok ..) ?_
  rintro _ rfl
  simp only [ret_int, ret_bool, ret_flt, ret_slc, ret_str, ret_ptr, ret_agg, ret_tup, ob_some, bb_true, bb_false, List.getElem?_cons_zero, List.getElem?_cons_succ, List.length_cons, List.length_nil, Nat.reduceAdd, Nat.reduceLT]
  by_cases hw : WholeP w0 h0 xs.length w1 h1 ys.length w2 h2 zs.length
  · rw [wholeS_pos _ _ _ _ _ _ _ _ _ hw]
    refine Evp.ff rfl ?_
    refine Evp.ob (rside_ok ..) ?_
    rintro _ rfl
    simp only [ret_int, ret_bool, ret_flt, ret_slc, ret_str, ret_ptr, ret_agg, ret_tup, ob_some, bb_true, bb_false, List.getElem?_cons_zero, List.getElem?_cons_succ, List.length_cons, List.length_nil, Nat.reduceAdd, Nat.reduceLT]
    refine Evp.nb (fun h => Evp.ret (by rw [bad fun e => of_decide_eq_false h e.2.1.1]; exact Run.ret noF_out)) fun hs1 => ?_
    refine Evp.ob (rside_ok ..) ?_
    rintro _ rfl
    simp only [ret_int, ret_bool, ret_flt, ret_slc, ret_str, ret_ptr, ret_agg, ret_tup, ob_some, bb_true, bb_false, List.getElem?_cons_zero, List.getElem?_cons_succ, List.length_cons, List.length_nil, Nat.reduceAdd, Nat.reduceLT]
    refine Evp.nb (fun h => Evp.ret (by rw [bad fun e => of_decide_eq_false h e.2.1.2]; exact Run.ret noF_out)) fun hs2 => ?_
    have hS : sideP W ∧ sideP H := ⟨of_decide_eq_true hs1, of_decide_eq_true hs2⟩
    refine Evp.dec (fun h => Evp.ret (by rw [bad fun e => by omega]; exact Run.ret noF_out)) fun g1 => ?_
    refine Evp.dec (fun h => Evp.ret (by rw [bad fun e => by omega]; exact Run.ret noF_out)) fun g2 => ?_
    have e : cropS w0 h0 w1 h1 w2 h2 xs ys zs W H = resF w0.toNat h0.toNat W.toNat H.toNat xs ys zs := by unfold cropS; rw [if_pos ⟨hw, hS, by omega, by omega⟩]
    rw [e]
    have hw' := hw
    obtain ⟨w, h, rfl, rfl, rfl, rfl, rfl, rfl, hs, n0, n1, n2⟩ := whole_nat _ _ _ _ _ _ _ _ _ hw
    have hS' := hS
    unfold sideP at hS'
    obtain ⟨W, rfl⟩ := Int.eq_ofNat_of_zero_le (a := W) (by omega)
    obtain ⟨H, rfl⟩ := Int.eq_ofNat_of_zero_le (a := H) (by omega)
    simp only [Int.toNat_natCast]
    refine Evp.ob (rresized_ok lo w h W H A0 A1 A2 c0 c1 c2 xs ys zs M hlo hx hy hz hw'.1 hw'.2.2.2.1 hw'.2.2.2.2.2.2.1 hS) ?_
    rintro _ ⟨a0, a1, a2, M', rfl, hp, hb⟩
    simp only [ret_int, ret_bool, ret_flt, ret_slc, ret_str, ret_ptr, ret_agg, ret_tup, ob_some, bb_true, bb_false, List.getElem?_cons_zero, List.getElem?_cons_succ, List.length_cons, List.length_nil, Nat.reduceAdd, Nat.reduceLT]
    exact Evp.ret (Run.ret (res_out w h W H xs ys zs M hS hp hb))
  · rw [wholeS_neg _ _ _ _ _ _ _ _ _ hw, bad fun e => hw e.1]
    refine Evp.tt rfl ?_
    exact Evp.ret (Run.ret noF_out)
theorem copyFrame_ok (hx : RdI M .u8 A0 xs) (hy : RdI M .u8 A1 ys) (hz : RdI M .u8 A2 zs) (n0 : xs.length ≤ 140737488351232) (n1 : ys.length ≤ 140737488351232) (n2 : zs.length ≤ 140737488351232) :
    Ac P T lo F.zoetroperef05_CopyFrame [.agg ⟨[.int .i64 w0, .int .i64 h0, .slice A0 xs.length c0, .int .i64 w1, .int .i64 h1, .slice A1 ys.length c1, .int .i64 w2, .int .i64 h2, .slice A2 zs.length c2]⟩] M fun r =>
      ∃ B0 B1 B2 d0 d1 d2 M', r = (.agg ⟨[.int .i64 w0, .int .i64 h0, .slice B0 xs.length d0, .int .i64 w1, .int .i64 h1, .slice B1 ys.length d1, .int .i64 w2, .int .i64 h2, .slice B2 zs.length d2]⟩, M') ∧ Pre M M' ∧ RdI M' .u8 B0 xs ∧ RdI M' .u8 B1 ys ∧ RdI M' .u8 B2 zs ∧ xs.length ≤ d0 ∧ ys.length ≤ d1 ∧ zs.length ≤ d2 := by
  refine Ac.of (Evp.of_eq (fun k => zoetroperef05_CopyFrame.entry k ..) ?_)
  refine Evp.ret ?_
  refine Run.cut (Evp.of_eq (fun k => zoetroperef05_CopyFrame.p116 k ..) ?_)
  refine Evp.tt rfl (Evp.pos (by decide) (Evp.some rfl (Evp.some rfl (Evp.some rfl ?_))))
  refine Evp.ob (copyPlane_ok _ _ _ _ _ _ _ hx n0) ?_
  rintro _ ⟨B0, d0, M1, rfl, p1, g1, k1⟩
  simp only [ret_int, ret_bool, ret_flt, ret_slc, ret_str, ret_ptr, ret_agg, ret_tup, ob_some, bb_true, bb_false, List.getElem?_cons_zero, List.getElem?_cons_succ, List.length_cons, List.length_nil, Nat.reduceAdd, Nat.reduceLT]
  refine Evp.pos (by decide) (Evp.pos (Nat.le_of_ble_eq_true rfl) ?_)
  rw [show IntKind.i64.wrap (0 + 1) = 1 from by decide]
  refine Evp.ret ?_
  refine Run.cut (Evp.of_eq (fun k => zoetroperef05_CopyFrame.p116 k ..) ?_)
  refine Evp.tt rfl (Evp.pos (by decide) (Evp.some rfl (Evp.some rfl (Evp.some rfl ?_))))
  refine Evp.ob (copyPlane_ok _ _ _ _ _ _ _ (hy.pre p1) n1) ?_
  rintro _ ⟨B1, d1, M2, rfl, p2, g2, k2⟩
  simp only [ret_int, ret_bool, ret_flt, ret_slc, ret_str, ret_ptr, ret_agg, ret_tup, ob_some, bb_true, bb_false, List.getElem?_cons_zero, List.getElem?_cons_succ, List.length_cons, List.length_nil, Nat.reduceAdd, Nat.reduceLT]
  refine Evp.pos (by decide) (Evp.pos (Nat.le_of_ble_eq_true rfl) ?_)
  rw [show IntKind.i64.wrap (1 + 1) = 2 from by decide]
  refine Evp.ret ?_
  refine Run.cut (Evp.of_eq (fun k => zoetroperef05_CopyFrame.p116 k ..) ?_)
  refine Evp.tt rfl (Evp.pos (by decide) (Evp.some rfl (Evp.some rfl (Evp.some rfl ?_))))
  refine Evp.ob (copyPlane_ok _ _ _ _ _ _ _ (hz.pre (p1.trans p2)) n2) ?_
  rintro _ ⟨B2, d2, M3, rfl, p3, g3, k3⟩
  simp only [ret_int, ret_bool, ret_flt, ret_slc, ret_str, ret_ptr, ret_agg, ret_tup, ob_some, bb_true, bb_false, List.getElem?_cons_zero, List.getElem?_cons_succ, List.length_cons, List.length_nil, Nat.reduceAdd, Nat.reduceLT]
  refine Evp.pos (by decide) (Evp.pos (Nat.le_of_ble_eq_true rfl) ?_)
  rw [show IntKind.i64.wrap (2 + 1) = 3 from by decide]
  refine Evp.ret ?_
  refine Run.cut (Evp.of_eq (fun k => zoetroperef05_CopyFrame.p116 k ..) ?_)
  refine Evp.ff rfl ?_
  refine Evp.some rfl (Evp.some rfl (Evp.some rfl (Evp.some rfl (Evp.some rfl (Evp.some rfl (Evp.some rfl (Evp.some rfl (Evp.some rfl ?_))))))))
  exact Evp.ret (Run.ret ⟨B0, B1, B2, d0, d1, d2, M3, rfl, (p1.trans p2).trans p3, k1.rdI.pre (p2.trans p3), k2.rdI.pre p3, k3.rdI, g1, g2, g3⟩)
theorem sameFrame_eq (B0 B1 B2 : Option Addr) (d0 d1 d2 : Nat) (hx : RdI M .u8 A0 xs) (hy : RdI M .u8 A1 ys) (hz : RdI M .u8 A2 zs) (hx' : RdI M .u8 B0 xs) (hy' : RdI M .u8 B1 ys) (hz' : RdI M .u8 B2 zs) (n0 : xs.length ≤ 140737488351232) (n1 : ys.length ≤ 140737488351232) (n2 : zs.length ≤ 140737488351232) :
    Ac P T lo F.zoetroperef05_SameFrame [.agg ⟨[.int .i64 w0, .int .i64 h0, .slice A0 xs.length c0, .int .i64 w1, .int .i64 h1, .slice A1 ys.length c1, .int .i64 w2, .int .i64 h2, .slice A2 zs.length c2]⟩, .agg ⟨[.int .i64 w0, .int .i64 h0, .slice B0 xs.length d0, .int .i64 w1, .int .i64 h1, .slice B1 ys.length d1, .int .i64 w2, .int .i64 h2, .slice B2 zs.length d2]⟩] M fun r => r = (.bool true, M) := by
  refine Ac.of (Evp.of_eq (fun k => zoetroperef05_SameFrame.entry k ..) ?_)
  refine Evp.ob (rsame_ok _ _ _ _ _ _ _ _ _ _ _ _ hx hx' n0) ?_
  rintro _ rfl
  simp only [ret_int, ret_bool, ret_flt, ret_slc, ret_str, ret_ptr, ret_agg, ret_tup, ob_some, bb_true, bb_false, List.getElem?_cons_zero, List.getElem?_cons_succ, List.length_cons, List.length_nil, Nat.reduceAdd, Nat.reduceLT]
  refine Evp.tt (by simp) ?_
  refine Evp.ob (rsame_ok _ _ _ _ _ _ _ _ _ _ _ _ hy hy' n1) ?_
  rintro _ rfl
  simp only [ret_int, ret_bool, ret_flt, ret_slc, ret_str, ret_ptr, ret_agg, ret_tup, ob_some, bb_true, bb_false, List.getElem?_cons_zero, List.getElem?_cons_succ, List.length_cons, List.length_nil, Nat.reduceAdd, Nat.reduceLT]
  refine Evp.tt (by simp) ?_
  refine Evp.ob (rsame_ok _ _ _ _ _ _ _ _ _ _ _ _ hz hz' n2) ?_
  rintro _ rfl
  simp only [ret_int, ret_bool, ret_flt, ret_slc, ret_str, ret_ptr, ret_agg, ret_tup, ob_some, bb_true, bb_false, List.getElem?_cons_zero, List.getElem?_cons_succ, List.length_cons, List.length_nil, Nat.reduceAdd, Nat.reduceLT]
  exact Evp.ret (Run.ret (by simp))
end
theorem spoil_step (lo : Nat) (w h : Int) (A : Option Addr) (c : Nat) (xs : List Int) (M0 M : Mem) (U : Nat) (hlo : lo ≤ M0.length) (hp : Pre M0 M) (hz : xs.length ≤ 262144) (hA : OwnM M0 M A xs) (hU : ∀ a, A = some a → xs ≠ [] → a.block < U) :
    Ac P T lo F.zoetropelaw05_spoil [.agg ⟨[.int .i64 w, .int .i64 h, .slice A xs.length c]⟩] M fun r => ∃ M', r = (.tuple ⟨[]⟩, M') ∧ Pre M0 M' ∧ KeepU U M M' ∧ ∀ A' ys, OwnM M0 M A' ys → Sep A A' xs → OwnM M0 M' A' ys := by
  by_cases hx : xs = []
  · subst hx
    refine Ac.mono (spoil_nil lo w h A c M) ?_
    rintro _ rfl
    exact ⟨M, rfl, hp, fun b k h _ => h, fun A' ys h _ => h⟩
  · refine Ac.mono (spoil_ok lo w h A c xs M0 M hlo hp (by omega) hA) ?_
    rintro _ ⟨M', rfl, p, k⟩
    refine ⟨M', rfl, p, fun b kk hb hUb => k b kk hb fun a hAa => by have := hU a hAa hx; omega, fun A' ys ho hs => ?_⟩
    rcases ho with h | ⟨a', rfl, hb⟩
    · exact .inl h
    · refine .inr ⟨a', rfl, hb.keep k fun a hA => ?_⟩
      rcases hs with hs | hs
      · exact absurd hs hx
      · exact hs a a' hA rfl
theorem toldFrame_ok (lo : Nat) (f : F3) (e : Int) (A0 A1 A2 B0 B1 B2 : Option Addr) (c0 c1 c2 d0 d1 d2 : Nat) (M0 M : Mem) (U : Nat) (hlo : lo ≤ M0.length) (hp : Pre M0 M) (ho : F3o f M0 M A0 A1 A2) (r0 : RdI M .u8 B0 f.l0) (r1 : RdI M .u8 B1 f.l1) (r2 : RdI M .u8 B2 f.l2)
    (u0 : ∀ a, A0 = some a → f.l0 ≠ [] → a.block < U) (u1 : ∀ a, A1 = some a → f.l1 ≠ [] → a.block < U) (u2 : ∀ a, A2 = some a → f.l2 ≠ [] → a.block < U) :
    Ac P T lo F.zoetropelaw05_toldFrame [.agg ⟨[.int .i64 f.p0, .int .i64 f.q0, .slice A0 f.l0.length c0, .int .i64 f.p1, .int .i64 f.q1, .slice A1 f.l1.length c1, .int .i64 f.p2, .int .i64 f.q2, .slice A2 f.l2.length c2]⟩, .int .i64 e, .agg ⟨[.int .i64 f.p0, .int .i64 f.q0, .slice B0 f.l0.length d0, .int .i64 f.p1, .int .i64 f.q1, .slice B1 f.l1.length d1, .int .i64 f.p2, .int .i64 f.q2, .slice B2 f.l2.length d2]⟩, .int .i64 e] M fun r => ∃ M', r = (.bool true, M') ∧ Pre M0 M' ∧ KeepU U M M' := by
  obtain ⟨o0, o1, o2, s01, s02, s12, z0, z1, z2⟩ := ho
  refine Ac.of (Evp.of_eq (fun k => zoetropelaw05_toldFrame.entry k ..) ?_)
  refine Evp.eqb (fun _ => ?_) fun h => absurd rfl h
  refine Evp.ob (sameFrame_eq _ _ _ _ _ _ _ _ _ _ _ _ _ _ _ _ _ _ _ _ _ _ _ o0.rd o1.rd o2.rd r0 r1 r2 (by omega) (by omega) (by omega)) ?_
  rintro _ rfl
  simp only [ret_int, ret_bool, ret_flt, ret_slc, ret_str, ret_ptr, ret_agg, ret_tup, ob_some, bb_true, bb_false, List.getElem?_cons_zero, List.getElem?_cons_succ, List.length_cons, List.length_nil, Nat.reduceAdd, Nat.reduceLT]
  refine Evp.ret ?_
  refine Run.cut (Evp.of_eq (fun k => zoetropelaw05_toldFrame.p116 k ..) ?_)
  refine Evp.tt rfl (Evp.pos (by decide) (Evp.some rfl (Evp.some rfl (Evp.some rfl ?_))))
  refine Evp.ob (spoil_step lo _ _ A0 c0 f.l0 M0 M U hlo hp z0 o0 u0) ?_
  rintro _ ⟨M1, rfl, p1, k1, t1⟩
  simp only [ret_int, ret_bool, ret_flt, ret_slc, ret_str, ret_ptr, ret_agg, ret_tup, ob_some, bb_true, bb_false, List.getElem?_cons_zero, List.getElem?_cons_succ, List.length_cons, List.length_nil, Nat.reduceAdd, Nat.reduceLT]
  rw [show IntKind.i64.wrap (0 + 1) = 1 from by decide]
  refine Evp.ret ?_
  refine Run.cut (Evp.of_eq (fun k => zoetropelaw05_toldFrame.p116 k ..) ?_)
  refine Evp.tt rfl (Evp.pos (by decide) (Evp.some rfl (Evp.some rfl (Evp.some rfl ?_))))
  refine Evp.ob (spoil_step lo _ _ A1 c1 f.l1 M0 M1 U hlo p1 z1 (t1 _ _ o1 s01) u1) ?_
  rintro _ ⟨M2, rfl, p2, k2, t2⟩
  simp only [ret_int, ret_bool, ret_flt, ret_slc, ret_str, ret_ptr, ret_agg, ret_tup, ob_some, bb_true, bb_false, List.getElem?_cons_zero, List.getElem?_cons_succ, List.length_cons, List.length_nil, Nat.reduceAdd, Nat.reduceLT]
  rw [show IntKind.i64.wrap (1 + 1) = 2 from by decide]
  refine Evp.ret ?_
  refine Run.cut (Evp.of_eq (fun k => zoetropelaw05_toldFrame.p116 k ..) ?_)
  refine Evp.tt rfl (Evp.pos (by decide) (Evp.some rfl (Evp.some rfl (Evp.some rfl ?_))))
  refine Evp.ob (spoil_step lo _ _ A2 c2 f.l2 M0 M2 U hlo p2 z2 (t2 _ _ (t1 _ _ o2 s02) s12) u2) ?_
  rintro _ ⟨M3, rfl, p3, k3, t3⟩
  simp only [ret_int, ret_bool, ret_flt, ret_slc, ret_str, ret_ptr, ret_agg, ret_tup, ob_some, bb_true, bb_false, List.getElem?_cons_zero, List.getElem?_cons_succ, List.length_cons, List.length_nil, Nat.reduceAdd, Nat.reduceLT]
  rw [show IntKind.i64.wrap (2 + 1) = 3 from by decide]
  refine Evp.ret ?_
  refine Run.cut (Evp.of_eq (fun k => zoetropelaw05_toldFrame.p116 k ..) ?_)
  exact Evp.ff rfl (Evp.ret (Run.ret ⟨M3, rfl, p3, fun b k hb hU => k3 b k (k2 b k (k1 b k hb hU) hU) hU⟩))
end Go.Zt
