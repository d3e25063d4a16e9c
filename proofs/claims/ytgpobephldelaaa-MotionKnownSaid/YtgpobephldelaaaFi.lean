/- Frames that are whole; their copies. -/
import Derived.Test.YtgpobephldelaaaFh
set_option linter.unusedVariables false
set_option linter.unusedSimpArgs false
set_option maxRecDepth 100000
namespace Go.Zt
def sideP (n : Int) : Prop := n % 2 = 0 ∧ 16 ≤ n ∧ n ≤ 256
instance (n : Int) : Decidable (sideP n) := inferInstanceAs (Decidable (_ ∧ _))
theorem sides_ok (lo : Nat) (w h : Int) (M : Mem) : Ac P T lo F.plane_sides [.int .i64 w, .int .i64 h] M fun r => r = (.bool (decide (sideP w ∧ sideP h)), M) := by
  have a1 : ∀ z : Int, andI .i64 z 1 = z % 2 := fun z => and_mask (x := z) 1 (by omega)
  have hmin : minI w h ≤ w ∧ minI w h ≤ h ∧ (minI w h = w ∨ minI w h = h) := by unfold minI; split <;> omega
  have hmax : w ≤ maxI w h ∧ h ≤ maxI w h ∧ (maxI w h = w ∨ maxI w h = h) := by unfold maxI; split <;> omega
  refine Ac.of (Evp.of_eq (fun k => plane_sides.entry k ..) ?_)
  rw [a1, a1]
  refine Evp.eqb (fun h1 => ?_) fun h1 => Evp.ret (Run.ret (by rw [decide_eq_false (fun e => h1 e.1.1)]))
  refine Evp.eqb (fun h2 => ?_) fun h2 => Evp.ret (Run.ret (by rw [decide_eq_false (fun e => h2 e.2.1)]))
  refine Evp.dec (fun h3 => ?_) fun h3 => Evp.ret (Run.ret (by rw [decide_eq_false (fun e => by unfold sideP at e; omega)]))
  refine Evp.ret (Run.ret ?_)
  congr 2
  exact decide_eq_decide.2 (by unfold sideP; omega)
def WholeP (w0 h0 n0 w1 h1 n1 w2 h2 n2 : Int) : Prop := checkS w0 h0 n0 = 0 ∧ sideP w0 ∧ sideP h0 ∧ checkS w1 h1 n1 = 0 ∧ w1 = w0 / 2 ∧ h1 = h0 / 2 ∧ checkS w2 h2 n2 = 0 ∧ w2 = w0 / 2 ∧ h2 = h0 / 2
instance (w0 h0 n0 w1 h1 n1 w2 h2 n2 : Int) : Decidable (WholeP w0 h0 n0 w1 h1 n1 w2 h2 n2) := inferInstanceAs (Decidable (_ ∧ _))
def wholeS (w0 h0 n0 w1 h1 n1 w2 h2 n2 : Int) : Int := if WholeP w0 h0 n0 w1 h1 n1 w2 h2 n2 then 0 else 2
section
variable (lo : Nat) (w0 h0 w1 h1 w2 h2 : Int) (A0 A1 A2 : Option Addr) (n0 c0 n1 c1 n2 c2 : Nat) (M : Mem)
theorem whole_ok : Ac P T lo F.plane_Whole [.agg ⟨[.int .i64 w0, .int .i64 h0, .slice A0 n0 c0, .int .i64 w1, .int .i64 h1, .slice A1 n1 c1, .int .i64 w2, .int .i64 h2, .slice A2 n2 c2]⟩] M fun r => r = (.int .i64 (wholeS w0 h0 n0 w1 h1 n1 w2 h2 n2), M) := by
  have bad : ¬ WholeP w0 h0 n0 w1 h1 n1 w2 h2 n2 → Run P T lo F.plane_Whole (.ret (.int .i64 2) M) fun r => r = (.int .i64 (wholeS w0 h0 n0 w1 h1 n1 w2 h2 n2), M) := fun h => Run.ret (by unfold wholeS; rw [if_neg h])
  have s0 : ∀ z : Int, shrI .i64 z (minI 0 1).toNat = z := fun z => by rw [show (minI 0 1).toNat = 0 from rfl, shr_eq 0 (by omega)]; simp
  have s1 : ∀ z : Int, shrI .i64 z (minI 1 1).toNat = z / 2 := fun z => by rw [show (minI 1 1).toNat = 1 from rfl, shr_eq 1 (by omega)]; rfl
  have s2 : ∀ z : Int, shrI .i64 z (minI 2 1).toNat = z / 2 := fun z => by rw [show (minI 2 1).toNat = 1 from rfl, shr_eq 1 (by omega)]; rfl
  refine Ac.of (Evp.of_eq (fun k => plane_Whole.entry k ..) ?_)
  refine Evp.ret ?_
  refine Run.cut (Evp.of_eq (fun k => plane_Whole.p116 k ..) ?_)
  refine Evp.tt rfl (Evp.pos (by decide) (Evp.some rfl (Evp.some rfl (Evp.some rfl ?_))))
  refine Evp.ob (check_ok ..) ?_
  rintro _ rfl
  simp only [ret_int, ret_bool, ret_flt, ret_slc, ret_str, ret_ptr, ret_agg, ret_tup, ob_some, bb_true, bb_false, List.getElem?_cons_zero, List.getElem?_cons_succ, List.length_cons, List.length_nil, Nat.reduceAdd, Nat.reduceLT]
  refine Evp.neb (fun h => Evp.ret (bad fun e => h e.1)) fun k0 => ?_
  refine Evp.ob (sides_ok ..) ?_
  rintro _ rfl
  simp only [ret_int, ret_bool, ret_flt, ret_slc, ret_str, ret_ptr, ret_agg, ret_tup, ob_some, bb_true, bb_false, List.getElem?_cons_zero, List.getElem?_cons_succ, List.length_cons, List.length_nil, Nat.reduceAdd, Nat.reduceLT]
  refine Evp.nb (fun h => Evp.ret (bad fun e => of_decide_eq_false h ⟨e.2.1, e.2.2.1⟩)) fun hs => ?_
  have hs := of_decide_eq_true hs
  refine Evp.neg (by decide) ?_
  rw [s0, s0]
  refine Evp.neb (fun h => absurd rfl h) fun _ => ?_
  refine Evp.neg (by decide) ?_
  refine Evp.neb (fun h => absurd rfl h) fun _ => ?_
  rw [show IntKind.i64.wrap (0 + 1) = 1 from by decide]
  refine Evp.ret ?_
  refine Run.cut (Evp.of_eq (fun k => plane_Whole.p116 k ..) ?_)
  refine Evp.tt rfl (Evp.pos (by decide) (Evp.some rfl (Evp.some rfl (Evp.some rfl ?_))))
  refine Evp.ob (check_ok ..) ?_
  rintro _ rfl
  simp only [ret_int, ret_bool, ret_flt, ret_slc, ret_str, ret_ptr, ret_agg, ret_tup, ob_some, bb_true, bb_false, List.getElem?_cons_zero, List.getElem?_cons_succ, List.length_cons, List.length_nil, Nat.reduceAdd, Nat.reduceLT]
  refine Evp.neb (fun h => Evp.ret (bad fun e => h e.2.2.2.1)) fun k1 => ?_
  refine Evp.ob (sides_ok ..) ?_
  rintro _ rfl
  simp only [ret_int, ret_bool, ret_flt, ret_slc, ret_str, ret_ptr, ret_agg, ret_tup, ob_some, bb_true, bb_false, List.getElem?_cons_zero, List.getElem?_cons_succ, List.length_cons, List.length_nil, Nat.reduceAdd, Nat.reduceLT]
  refine Evp.ff (by rw [decide_eq_true hs]; rfl) ?_
  refine Evp.neg (by decide) ?_
  rw [s1, s1]
  refine Evp.neb (fun h => Evp.ret (bad fun e => h e.2.2.2.2.1)) fun e1 => ?_
  refine Evp.neg (by decide) ?_
  refine Evp.neb (fun h => Evp.ret (bad fun e => h e.2.2.2.2.2.1)) fun e2 => ?_
  rw [show IntKind.i64.wrap (1 + 1) = 2 from by decide]
  refine Evp.ret ?_
  refine Run.cut (Evp.of_eq (fun k => plane_Whole.p116 k ..) ?_)
  refine Evp.tt rfl (Evp.pos (by decide) (Evp.some rfl (Evp.some rfl (Evp.some rfl ?_))))
  refine Evp.ob (check_ok ..) ?_
  rintro _ rfl
  simp only [ret_int, ret_bool, ret_flt, ret_slc, ret_str, ret_ptr, ret_agg, ret_tup, ob_some, bb_true, bb_false, List.getElem?_cons_zero, List.getElem?_cons_succ, List.length_cons, List.length_nil, Nat.reduceAdd, Nat.reduceLT]
  refine Evp.neb (fun h => Evp.ret (bad fun e => h e.2.2.2.2.2.2.1)) fun k2 => ?_
  refine Evp.ob (sides_ok ..) ?_
  rintro _ rfl
  simp only [ret_int, ret_bool, ret_flt, ret_slc, ret_str, ret_ptr, ret_agg, ret_tup, ob_some, bb_true, bb_false, List.getElem?_cons_zero, List.getElem?_cons_succ, List.length_cons, List.length_nil, Nat.reduceAdd, Nat.reduceLT]
  refine Evp.ff (by rw [decide_eq_true hs]; rfl) ?_
  refine Evp.neg (by decide) ?_
  rw [s2, s2]
  refine Evp.neb (fun h => Evp.ret (bad fun e => h e.2.2.2.2.2.2.2.1)) fun e3 => ?_
  refine Evp.neg (by decide) ?_
  refine Evp.neb (fun h => Evp.ret (bad fun e => h e.2.2.2.2.2.2.2.2)) fun e4 => ?_
  rw [show IntKind.i64.wrap (2 + 1) = 3 from by decide]
  refine Evp.ret ?_
  refine Run.cut (Evp.of_eq (fun k => plane_Whole.p116 k ..) ?_)
  refine Evp.ff rfl (Evp.ret (Run.ret ?_))
  unfold wholeS
  rw [if_pos ⟨k0, hs.1, hs.2, k1, e1, e2, k2, e3, e4⟩]
end
theorem rside_ok (lo : Nat) (n : Int) (M : Mem) : Ac P T lo F.zoetroperef05_side [.int .i64 n] M fun r => r = (.bool (decide (sideP n)), M) := by
  have ht : Int.tmod n 2 = 0 ↔ n % 2 = 0 := by rw [← Int.dvd_iff_tmod_eq_zero, Int.dvd_iff_emod_eq_zero]
  refine Ac.of (Evp.of_eq (fun k => zoetroperef05_side.entry k ..) ?_)
  refine Evp.eqb (fun h1 => ?_) fun h1 => Evp.ret (Run.ret (by rw [decide_eq_false (fun e => h1 (ht.2 e.1))]))
  have h1 := ht.1 h1
  refine Evp.dec (fun h3 => ?_) fun h3 => Evp.ret (Run.ret (by rw [decide_eq_false (fun e => by unfold sideP at e; omega)]))
  refine Evp.ret (Run.ret ?_)
  congr 2
  exact decide_eq_decide.2 (by unfold sideP; omega)
section
variable (lo : Nat) (w0 h0 w1 h1 w2 h2 : Int) (A0 A1 A2 : Option Addr) (n0 c0 n1 c1 n2 c2 : Nat) (M : Mem)
theorem rwhole_ok : Ac P T lo F.zoetroperef05_Whole [.agg ⟨[.int .i64 w0, .int .i64 h0, .slice A0 n0 c0, .int .i64 w1, .int .i64 h1, .slice A1 n1 c1, .int .i64 w2, .int .i64 h2, .slice A2 n2 c2]⟩] M fun r => r = (.int .i64 (wholeS w0 h0 n0 w1 h1 n1 w2 h2 n2), M) := by
  have bad : ¬ WholeP w0 h0 n0 w1 h1 n1 w2 h2 n2 → Run P T lo F.zoetroperef05_Whole (.ret (.int .i64 2) M) fun r => r = (.int .i64 (wholeS w0 h0 n0 w1 h1 n1 w2 h2 n2), M) := fun h => Run.ret (by unfold wholeS; rw [if_neg h])
  refine Ac.of (Evp.of_eq (fun k => zoetroperef05_Whole.entry k ..) ?_)
  refine Evp.ob (rcheck_ok ..) ?_
  rintro _ rfl
  simp only [ret_int, ret_bool, ret_flt, ret_slc, ret_str, ret_ptr, ret_agg, ret_tup, ob_some, bb_true, bb_false, List.getElem?_cons_zero, List.getElem?_cons_succ, List.length_cons, List.length_nil, Nat.reduceAdd, Nat.reduceLT]
  refine Evp.neb (fun h => Evp.ret (bad fun e => h e.1)) fun k0 => ?_
  refine Evp.ob (rside_ok ..) ?_
  rintro _ rfl
  simp only [ret_int, ret_bool, ret_flt, ret_slc, ret_str, ret_ptr, ret_agg, ret_tup, ob_some, bb_true, bb_false, List.getElem?_cons_zero, List.getElem?_cons_succ, List.length_cons, List.length_nil, Nat.reduceAdd, Nat.reduceLT]
  refine Evp.nb (fun h => Evp.ret (bad fun e => of_decide_eq_false h e.2.1)) fun s1 => ?_
  refine Evp.ob (rside_ok ..) ?_
  rintro _ rfl
  simp only [ret_int, ret_bool, ret_flt, ret_slc, ret_str, ret_ptr, ret_agg, ret_tup, ob_some, bb_true, bb_false, List.getElem?_cons_zero, List.getElem?_cons_succ, List.length_cons, List.length_nil, Nat.reduceAdd, Nat.reduceLT]
  refine Evp.nb (fun h => Evp.ret (bad fun e => of_decide_eq_false h e.2.2.1)) fun s2 => ?_
  have s1 := of_decide_eq_true s1
  have s2 := of_decide_eq_true s2
  have s1' := s1
  have s2' := s2
  unfold sideP at s1' s2'
  have d1 : IntKind.i64.wrap (Int.tdiv w0 2) = w0 / 2 := by rw [Int.tdiv_eq_ediv_of_nonneg (by omega)]; exact w64 (by omega)
  have d2 : IntKind.i64.wrap (Int.tdiv h0 2) = h0 / 2 := by rw [Int.tdiv_eq_ediv_of_nonneg (by omega)]; exact w64 (by omega)
  refine Evp.ret ?_
  refine Run.cut (Evp.of_eq (fun k => zoetroperef05_Whole.p116 k ..) ?_)
  refine Evp.tt rfl (Evp.pos (by decide) (Evp.some rfl (Evp.some rfl (Evp.some rfl ?_))))
  refine Evp.ob (rcheck_ok ..) ?_
  rintro _ rfl
  simp only [ret_int, ret_bool, ret_flt, ret_slc, ret_str, ret_ptr, ret_agg, ret_tup, ob_some, bb_true, bb_false, List.getElem?_cons_zero, List.getElem?_cons_succ, List.length_cons, List.length_nil, Nat.reduceAdd, Nat.reduceLT]
  refine Evp.neb (fun h => Evp.ret (bad fun e => h e.2.2.2.1)) fun k1 => ?_
  refine Evp.pos (by decide) (Evp.some rfl ?_)
  rw [d1, d2]
  refine Evp.neb (fun h => Evp.ret (bad fun e => h e.2.2.2.2.1)) fun e1 => ?_
  refine Evp.pos (by decide) (Evp.some rfl ?_)
  refine Evp.neb (fun h => Evp.ret (bad fun e => h e.2.2.2.2.2.1)) fun e2 => ?_
  rw [show IntKind.i64.wrap (1 + 1) = 2 from by decide]
  refine Evp.ret ?_
  refine Run.cut (Evp.of_eq (fun k => zoetroperef05_Whole.p116 k ..) ?_)
  refine Evp.tt rfl (Evp.pos (by decide) (Evp.some rfl (Evp.some rfl (Evp.some rfl ?_))))
  refine Evp.ob (rcheck_ok ..) ?_
  rintro _ rfl
  simp only [ret_int, ret_bool, ret_flt, ret_slc, ret_str, ret_ptr, ret_agg, ret_tup, ob_some, bb_true, bb_false, List.getElem?_cons_zero, List.getElem?_cons_succ, List.length_cons, List.length_nil, Nat.reduceAdd, Nat.reduceLT]
  refine Evp.neb (fun h => Evp.ret (bad fun e => h e.2.2.2.2.2.2.1)) fun k2 => ?_
  refine Evp.pos (by decide) (Evp.some rfl ?_)
  rw [d1, d2]
  refine Evp.neb (fun h => Evp.ret (bad fun e => h e.2.2.2.2.2.2.2.1)) fun e3 => ?_
  refine Evp.pos (by decide) (Evp.some rfl ?_)
  refine Evp.neb (fun h => Evp.ret (bad fun e => h e.2.2.2.2.2.2.2.2)) fun e4 => ?_
  rw [show IntKind.i64.wrap (2 + 1) = 3 from by decide]
  refine Evp.ret ?_
  refine Run.cut (Evp.of_eq (fun k => zoetroperef05_Whole.p116 k ..) ?_)
  refine Evp.ff rfl (Evp.ret (Run.ret ?_))
  unfold wholeS
  rw [if_pos ⟨k0, s1, s2, k1, e1, e2, k2, e3, e4⟩]
end
section
variable (lo : Nat) (w0 h0 w1 h1 w2 h2 : Int) (A0 A1 A2 : Option Addr) (c0 c1 c2 : Nat) (xs ys zs : List Int) (M : Mem)
theorem wholeS_pos (hw : WholeP w0 h0 xs.length w1 h1 ys.length w2 h2 zs.length) : wholeS w0 h0 xs.length w1 h1 ys.length w2 h2 zs.length = 0 := by unfold wholeS; rw [if_pos hw]
theorem wholeS_neg (hw : ¬ WholeP w0 h0 xs.length w1 h1 ys.length w2 h2 zs.length) : wholeS w0 h0 xs.length w1 h1 ys.length w2 h2 zs.length = 2 := by unfold wholeS; rw [if_neg hw]
end
section
variable (lo : Nat) (w0 h0 w1 h1 w2 h2 : Int) (A0 A1 A2 : Option Addr) (c0 c1 c2 : Nat) (xs ys zs : List Int) (M : Mem)
theorem copyFrame_ok (hx : RdI M .u8 A0 xs) (hy : RdI M .u8 A1 ys) (hz : RdI M .u8 A2 zs) (n0 : xs.length ≤ 140737488351232) (n1 : ys.length ≤ 140737488351232) (n2 : zs.length ≤ 140737488351232) :
    Ac P T lo F.zoetroperef05_CopyFrame [.agg ⟨[.int .i64 w0, .int .i64 h0, .slice A0 xs.length c0, .int .i64 w1, .int .i64 h1, .slice A1 ys.length c1, .int .i64 w2, .int .i64 h2, .slice A2 zs.length c2]⟩] M fun r =>
      ∃ B0 B1 B2 d0 d1 d2 M', r = (.agg ⟨[.int .i64 w0, .int .i64 h0, .slice B0 xs.length d0, .int .i64 w1, .int .i64 h1, .slice B1 ys.length d1, .int .i64 w2, .int .i64 h2, .slice B2 zs.length d2]⟩, M') ∧ Pre M M' ∧ RdI M' .u8 B0 xs ∧ RdI M' .u8 B1 ys ∧ RdI M' .u8 B2 zs ∧ xs.length ≤ d0 ∧ ys.length ≤ d1 ∧ zs.length ≤ d2 := by
  refine Ac.of (Evp.of_eq (fun k => zoetroperef05_CopyFrame.entry k ..) ?_)
  refine Evp.ret ?_
  refine Run.cut (Evp.of_eq (fun k => zoetroperef05_CopyFrame.p116 k ..) ?_)
  refine Evp.tt rfl (Evp.pos (by decide) (Evp.some rfl (Evp.some rfl (Evp.some rfl ?_))))
  refine Evp.ob (copyPlane_ok _ _ _ _ _ _ _ hx n0) ?_
  rintro _ ⟨B0, d0, M1, rfl, p1, g1, k1⟩
  simp only [ret_int, ret_bool, ret_flt, ret_slc, ret_str, ret_ptr, ret_agg, ret_tup, ob_some, bb_true, bb_false, List.getElem?_cons_zero, List.getElem?_cons_succ, List.length_cons, List.length_nil, Nat.reduceAdd, Nat.reduceLT]
  refine Evp.pos (by decide) (Evp.pos (Nat.le_of_ble_eq_true rfl) ?_)
  rw [show IntKind.i64.wrap (0 + 1) = 1 from by decide]
  refine Evp.ret ?_
  refine Run.cut (Evp.of_eq (fun k => zoetroperef05_CopyFrame.p116 k ..) ?_)
  refine Evp.tt rfl (Evp.pos (by decide) (Evp.some rfl (Evp.some rfl (Evp.some rfl ?_))))
  refine Evp.ob (copyPlane_ok _ _ _ _ _ _ _ (hy.pre p1) n1) ?_
  rintro _ ⟨B1, d1, M2, rfl, p2, g2, k2⟩
  simp only [ret_int, ret_bool, ret_flt, ret_slc, ret_str, ret_ptr, ret_agg, ret_tup, ob_some, bb_true, bb_false, List.getElem?_cons_zero, List.getElem?_cons_succ, List.length_cons, List.length_nil, Nat.reduceAdd, Nat.reduceLT]
  refine Evp.pos (by decide) (Evp.pos (Nat.le_of_ble_eq_true rfl) ?_)
  rw [show IntKind.i64.wrap (1 + 1) = 2 from by decide]
  refine Evp.ret ?_
  refine Run.cut (Evp.of_eq (fun k => zoetroperef05_CopyFrame.p116 k ..) ?_)
  refine Evp.tt rfl (Evp.pos (by decide) (Evp.some rfl (Evp.some rfl (Evp.some rfl ?_))))
  refine Evp.ob (copyPlane_ok _ _ _ _ _ _ _ (hz.pre (p1.trans p2)) n2) ?_
  rintro _ ⟨B2, d2, M3, rfl, p3, g3, k3⟩
  simp only [ret_int, ret_bool, ret_flt, ret_slc, ret_str, ret_ptr, ret_agg, ret_tup, ob_some, bb_true, bb_false, List.getElem?_cons_zero, List.getElem?_cons_succ, List.length_cons, List.length_nil, Nat.reduceAdd, Nat.reduceLT]
  refine Evp.pos (by decide) (Evp.pos (Nat.le_of_ble_eq_true rfl) ?_)
  rw [show IntKind.i64.wrap (2 + 1) = 3 from by decide]
  refine Evp.ret ?_
  refine Run.cut (Evp.of_eq (fun k => zoetroperef05_CopyFrame.p116 k ..) ?_)
  refine Evp.ff rfl ?_
  refine Evp.some rfl (Evp.some rfl (Evp.some rfl (Evp.some rfl (Evp.some rfl (Evp.some rfl (Evp.some rfl (Evp.some rfl (Evp.some rfl ?_))))))))
  exact Evp.ret (Run.ret ⟨B0, B1, B2, d0, d1, d2, M3, rfl, (p1.trans p2).trans p3, k1.rdI.pre (p2.trans p3), k2.rdI.pre p3, k3.rdI, g1, g2, g3⟩)
theorem sameFrame_eq (B0 B1 B2 : Option Addr) (d0 d1 d2 : Nat) (hx : RdI M .u8 A0 xs) (hy : RdI M .u8 A1 ys) (hz : RdI M .u8 A2 zs) (hx' : RdI M .u8 B0 xs) (hy' : RdI M .u8 B1 ys) (hz' : RdI M .u8 B2 zs) (n0 : xs.length ≤ 140737488351232) (n1 : ys.length ≤ 140737488351232) (n2 : zs.length ≤ 140737488351232) :
    Ac P T lo F.zoetroperef05_SameFrame [.agg ⟨[.int .i64 w0, .int .i64 h0, .slice A0 xs.length c0, .int .i64 w1, .int .i64 h1, .slice A1 ys.length c1, .int .i64 w2, .int .i64 h2, .slice A2 zs.length c2]⟩, .agg ⟨[.int .i64 w0, .int .i64 h0, .slice B0 xs.length d0, .int .i64 w1, .int .i64 h1, .slice B1 ys.length d1, .int .i64 w2, .int .i64 h2, .slice B2 zs.length d2]⟩] M fun r => r = (.bool true, M) := by
  refine Ac.of (Evp.of_eq (fun k => zoetroperef05_SameFrame.entry k ..) ?_)
  refine Evp.ob (rsame_ok _ _ _ _ _ _ _ _ _ _ _ _ hx hx' n0) ?_
  rintro _ rfl
  simp only [ret_int, ret_bool, ret_flt, ret_slc, ret_str, ret_ptr, ret_agg, ret_tup, ob_some, bb_true, bb_false, List.getElem?_cons_zero, List.getElem?_cons_succ, List.length_cons, List.length_nil, Nat.reduceAdd, Nat.reduceLT]
  refine Evp.tt (by simp) ?_
  refine Evp.ob (rsame_ok _ _ _ _ _ _ _ _ _ _ _ _ hy hy' n1) ?_
  rintro _ rfl
  simp only [ret_int, ret_bool, ret_flt, ret_slc, ret_str, ret_ptr, ret_agg, ret_tup, ob_some, bb_true, bb_false, List.getElem?_cons_zero, List.getElem?_cons_succ, List.length_cons, List.length_nil, Nat.reduceAdd, Nat.reduceLT]
  refine Evp.tt (by simp) ?_
  refine Evp.ob (rsame_ok _ _ _ _ _ _ _ _ _ _ _ _ hz hz' n2) ?_
  rintro _ rfl
  simp only [ret_int, ret_bool, ret_flt, ret_slc, ret_str, ret_ptr, ret_agg, ret_tup, ob_some, bb_true, bb_false, List.getElem?_cons_zero, List.getElem?_cons_succ, List.length_cons, List.length_nil, Nat.reduceAdd, Nat.reduceLT]
  exact Evp.ret (Run.ret (by simp))
end
end Go.Zt
