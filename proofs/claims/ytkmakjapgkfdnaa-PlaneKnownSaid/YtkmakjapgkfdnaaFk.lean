/- What is laid is cut. -/
import Derived.Test.YtkmakjapgkfdnaaFj
set_option linter.unusedVariables false
set_option linter.unusedSimpArgs false
set_option maxRecDepth 100000
namespace Go.Zt
theorem inside_ok (lo : Nat) (w h : Int) (A : Option Addr) (n c : Nat) (x y rw' rh : Int) (M : Mem) (hw : 1 ≤ w ∧ w ≤ 512) (hh : 1 ≤ h ∧ h ≤ 512) :
    Ac P T lo F.zoetropelaw05_inside [.agg ⟨[.int .i64 w, .int .i64 h, .slice A n c]⟩, .agg ⟨[.int .i64 x, .int .i64 y, .int .i64 rw', .int .i64 rh]⟩] M fun r => ∃ x' y' rw2 rh2 : Nat, r = (.agg ⟨[.int .i64 x', .int .i64 y', .int .i64 rw2, .int .i64 rh2]⟩, M) ∧ WithinP w h x' y' rw2 rh2 := by
  refine Ac.of (Evp.of_eq (fun k => zoetropelaw05_inside.entry k ..) ?_)
  refine Evp.ob (bring_ok _ _ _ _ (by omega)) ?_
  rintro _ rfl
  simp only [ret_int, ret_bool, ret_flt, ret_slc, ret_str, ret_ptr, ret_agg, ret_tup, ob_some, bb_true, bb_false, List.getElem?_cons_zero, List.getElem?_cons_succ, List.length_cons, List.length_nil, Nat.reduceAdd, Nat.reduceLT]
  refine Evp.ob (bring_ok _ _ _ _ (by omega)) ?_
  rintro _ rfl
  simp only [ret_int, ret_bool, ret_flt, ret_slc, ret_str, ret_ptr, ret_agg, ret_tup, ob_some, bb_true, bb_false, List.getElem?_cons_zero, List.getElem?_cons_succ, List.length_cons, List.length_nil, Nat.reduceAdd, Nat.reduceLT]
  have h1 := bringS_lt (i := rw') (n := w) (by omega)
  have h2 := bringS_lt (i := rh) (n := h) (by omega)
  rw [w64 (x := 1 + bringS rw' w) (by omega), w64 (x := 1 + bringS rh h) (by omega), w64 (x := w - (1 + bringS rw' w)) (by omega), w64 (x := h - (1 + bringS rh h)) (by omega), w64 (x := w - (1 + bringS rw' w) + 1) (by omega), w64 (x := h - (1 + bringS rh h) + 1) (by omega)]
  refine Evp.ob (bring_ok _ _ _ _ (by omega)) ?_
  rintro _ rfl
  simp only [ret_int, ret_bool, ret_flt, ret_slc, ret_str, ret_ptr, ret_agg, ret_tup, ob_some, bb_true, bb_false, List.getElem?_cons_zero, List.getElem?_cons_succ, List.length_cons, List.length_nil, Nat.reduceAdd, Nat.reduceLT]
  refine Evp.ob (bring_ok _ _ _ _ (by omega)) ?_
  rintro _ rfl
  simp only [ret_int, ret_bool, ret_flt, ret_slc, ret_str, ret_ptr, ret_agg, ret_tup, ob_some, bb_true, bb_false, List.getElem?_cons_zero, List.getElem?_cons_succ, List.length_cons, List.length_nil, Nat.reduceAdd, Nat.reduceLT]
  have h3 := bringS_lt (i := x) (n := w - (1 + bringS rw' w) + 1) (by omega)
  have h4 := bringS_lt (i := y) (n := h - (1 + bringS rh h) + 1) (by omega)
  generalize bringS x (w - (1 + bringS rw' w) + 1) = x2 at *
  generalize bringS y (h - (1 + bringS rh h) + 1) = y2 at *
  generalize bringS rw' w = u at *
  generalize bringS rh h = v at *
  obtain ⟨x2, rfl⟩ := Int.eq_ofNat_of_zero_le h3.1
  obtain ⟨y2, rfl⟩ := Int.eq_ofNat_of_zero_le h4.1
  obtain ⟨u, rfl⟩ := Int.eq_ofNat_of_zero_le h1.1
  obtain ⟨v, rfl⟩ := Int.eq_ofNat_of_zero_le h2.1
  have eu : (1 : Int) + (u : Int) = ((1 + u : Nat) : Int) := by simp
  have ev : (1 : Int) + (v : Int) = ((1 + v : Nat) : Int) := by simp
  rw [eu, ev]
  exact Evp.ret (Run.ret ⟨x2, y2, 1 + u, 1 + v, rfl, by unfold WithinP; omega⟩)
section
variable {w h x y rw rh : Nat} {xs bs : List Int}
theorem cut_lay (hn : xs.length = w * h) (hx : x + rw ≤ w) (hy : y + rh ≤ h) (hb : bs.length = rh * rw) : cutS w (layS w xs bs x y rw rh) x y rw (rh * rw) = bs := by
  apply ext_getD (by rw [cutS_len, hb])
  intro q hq
  rw [cutS_len] at hq
  obtain ⟨q0, q1, q2, q3⟩ := dm_lt hq
  have hin : (y + q / rw) * w + (x + q % rw) < xs.length := by
    rw [hn, Nat.mul_comm w h]
    exact dm_in (by generalize q / rw = u at *; omega) (by generalize q % rw = u at *; omega)
  obtain ⟨d1, d2⟩ := dm (W := w) (r := y + q / rw) (s := x + q % rw) (by generalize q % rw = u at *; omega)
  unfold cutS
  rw [getD_map_range hq]
  unfold layS
  rw [getD_map_range hin, d1, d2, if_pos (by generalize q / rw = u at *; generalize q % rw = u' at *; omega), Nat.add_sub_cancel_left, Nat.add_sub_cancel_left, ← q3]
theorem lay_cut (hn : xs.length = w * h) (hx : x + rw ≤ w) (hy : y + rh ≤ h) : layS w (layS w xs bs x y rw rh) (cutS w xs x y rw (rh * rw)) x y rw rh = xs := by
  apply ext_getD (by rw [layS_len, layS_len])
  intro q hq
  rw [layS_len, layS_len] at hq
  obtain ⟨q0, q1, q2, q3⟩ := dm_lt (W := w) (h := h) (q := q) (by rw [Nat.mul_comm]; omega)
  unfold layS
  rw [getD_map_range (by simpa using hq)]
  by_cases h1 : y ≤ q / w ∧ q / w < y + rh ∧ x ≤ q % w ∧ q % w < x + rw
  · have h2 : q / w - y < rh := by generalize q / w = u at *; omega
    have h3 : q % w - x < rw := by generalize q % w = u at *; omega
    obtain ⟨d1, d2⟩ := dm (W := rw) (r := q / w - y) (s := q % w - x) h3
    rw [if_pos h1]
    unfold cutS
    rw [getD_map_range (dm_in h2 h3), d1, d2, Nat.add_sub_cancel' h1.1, Nat.add_sub_cancel' h1.2.2.1, ← q3]
  · rw [if_neg h1, getD_map_range hq, if_neg h1]
theorem lay_out {q : Nat} (hq : q < xs.length) (h1 : ¬ (y ≤ q / w ∧ q / w < y + rh ∧ x ≤ q % w ∧ q % w < x + rw)) : (layS w xs bs x y rw rh).getD q 0 = xs.getD q 0 := by
  unfold layS
  rw [getD_map_range hq, if_neg h1]
end
section
variable (lo : Nat) (w h x y rw rh : Nat) (xs bs : List Int) (A B : Option Addr) (c cb : Nat) (M : Mem)
theorem laid_end (hx : RdI M .u8 A xs) (hq : RdI M .u8 B (layS w xs bs x y rw rh)) (hw : 1 ≤ w ∧ w ≤ 512) (hh : h ≤ 512) (hn : xs.length = w * h) (hrx : x + rw ≤ w) (hry : y + rh ≤ h) (cc : Nat) :
    ∀ (d i : Nat), xs.length - i = d → i ≤ xs.length → Run P T lo F.zoetropelaw05_PlaneLaid (zoetropelaw05_PlaneLaid.c131060 i w h A xs.length c x y rw rh w h B xs.length cc M) fun r => r.1 = .bool true := by
  have hmax : w * h ≤ 512 * 512 := Nat.mul_le_mul hw.2 hh
  intro d
  induction d with
  | zero =>
    intro i hd hi
    refine Run.cut (Evp.of_eq (fun k => zoetropelaw05_PlaneLaid.p131060 k ..) ?_)
    exact Evp.dec (fun h => absurd h (by omega)) fun _ => Evp.ret (Run.ret rfl)
  | succ d ih =>
    intro i hd hi
    refine Run.cut (Evp.of_eq (fun k => zoetropelaw05_PlaneLaid.p131060 k ..) ?_)
    refine Evp.dec (fun _ => ?_) fun h => absurd h (by omega)
    refine Evp.neg (by omega) (Evp.neg (by omega) ?_)
    have e1 : Int.tdiv (i : Int) ((w : Nat) : Int) = ((i / w : Nat) : Int) := rfl
    have e2 : Int.tmod (i : Int) ((w : Nat) : Int) = ((i % w : Nat) : Int) := rfl
    have hle : i / w ≤ i := Nat.div_le_self _ _
    have out := lay_out (w := w) (x := x) (y := y) (rw := rw) (rh := rh) (bs := bs) (xs := xs) (q := i) (by omega)
    have hl := layS_len w xs bs x y rw rh
    rw [e1, e2]
    generalize i / w = u at *
    generalize i % w = v at *
    rw [w64 (x := (u : Int)) (by omega), w64 (x := (x : Int) + rw) (by omega), w64 (x := (y : Int) + rh) (by omega), w64 (x := (i : Int) + 1) (by omega)]
    simp only [Int.toNat_natCast]
    have nxt := ih (i + 1) (by omega) (by omega)
    refine Evp.dec (fun h1 => ?_) fun h1 => ?_
    · refine Evp.dec (fun h2 => ?_) fun h2 => ?_
      · refine Evp.dec (fun h3 => ?_) fun h3 => ?_
        · refine Evp.nb (fun h4 => ?_) fun h4 => ?_
          · have h4 := of_decide_eq_false h4
            refine Evp.pos (by omega) (Evp.ldI hq (by omega) fun _ _ => Evp.pos (by omega) (Evp.ldI hx (by omega) fun _ _ => ?_))
            refine Evp.ff (by rw [out (by omega)]; simp) ?_
            exact Evp.ret nxt
          · exact Evp.ret nxt
        · refine Evp.pos (by omega) (Evp.ldI hq (by omega) fun _ _ => Evp.pos (by omega) (Evp.ldI hx (by omega) fun _ _ => ?_))
          refine Evp.ff (by rw [out (by omega)]; simp) ?_
          exact Evp.ret nxt
      · refine Evp.pos (by omega) (Evp.ldI hq (by omega) fun _ _ => Evp.pos (by omega) (Evp.ldI hx (by omega) fun _ _ => ?_))
        refine Evp.ff (by rw [out (by omega)]; simp) ?_
        exact Evp.ret nxt
    · refine Evp.pos (by omega) (Evp.ldI hq (by omega) fun _ _ => Evp.pos (by omega) (Evp.ldI hx (by omega) fun _ _ => ?_))
      refine Evp.ff (by rw [out (by omega)]; simp) ?_
      exact Evp.ret nxt
end
section
variable (seed : Int) (w h x y rw rh : Nat) (xs : List Int) (A : Option Addr) (c : Nat) (M0 M1 : Mem)
def seedF (seed : Int) (i : Nat) : Int := IntKind.u8.wrap (IntKind.i64.wrap (seed + IntKind.i64.wrap (7 * (i : Int))))
theorem laid_loop (hx : RdI M1 .u8 A xs) (hc : xs.length ≤ c) (hk : checkS w h xs.length = 0) (hwi : WithinP w h x y rw rh) (lo : Nat) (hlo : lo ≤ M1.length) (a : Addr) (n : Nat) (hn : n = rh * rw) :
    ∀ (d i : Nat) (M : Mem), n - i = d → i ≤ n → Pre M1 M → Buf M1 M a ((fillG (seedF seed) n i).map (Value.int .u8)) →
    Run P T lo F.zoetropelaw05_PlaneLaid (zoetropelaw05_PlaneLaid.c2036 seed (some a) n n i w h A xs.length c x y rw rh M) fun r => r.1 = .bool true := by
  have hs := checkS_len' hk
  have har := area (w := w) (h := h) (by omega)
  obtain ⟨r1, r2, r3, r4, r5, r6⟩ := hwi
  have hwi : WithinP w h x y rw rh := ⟨r1, r2, r3, r4, r5, r6⟩
  have hnn : xs.length = w * h := by have := hs.2.2.2.2; rw [← Int.natCast_mul] at this; omega
  have hbl : n ≤ 512 * 512 := by rw [hn]; exact Nat.mul_le_mul (by omega) (by omega)
  intro d
  induction d with
  | zero =>
    intro i M hd hi hp hb
    obtain rfl : i = n := by omega
    rw [fillG_full] at hb
    generalize hbs : (List.range i).map (seedF seed) = bs at hb
    have hl : bs.length = i := by rw [← hbs]; simp
    refine Run.cut (Evp.of_eq (fun k => zoetropelaw05_PlaneLaid.p2036 k ..) ?_)
    refine Evp.dec (fun h => absurd h (by omega)) fun _ => ?_
    have f1 := play_ok lo w h A c xs x y rw rh (some a) i bs M (hx.pre hp) hb.rdI (by omega) (Nat.le_trans hlo hp.len)
    rw [hl] at f1
    refine Evp.ob f1 ?_
    rintro ⟨r, M2⟩ ⟨p2, h2⟩
    have hbe : (bs.length : Int) = (rw : Int) * (rh : Int) := by rw [hl, hn, Int.natCast_mul, Int.mul_comm]
    rw [if_pos ⟨hk, hwi, hbe⟩] at h2
    obtain ⟨a2, c2, rfl, hc2, b2⟩ := h2
    simp only [Int.toNat_natCast] at b2
    simp only [ret_int, ret_bool, ret_flt, ret_slc, ret_str, ret_ptr, ret_agg, ret_tup, ob_some, bb_true, bb_false, List.getElem?_cons_zero, List.getElem?_cons_succ, List.length_cons, List.length_nil, Nat.reduceAdd, Nat.reduceLT]
    have hll := layS_len w xs bs x y rw rh
    have q2 := hp.trans p2
    have f3 := pcut_ok lo w h (some a2) c2 (layS w xs bs x y rw rh) x y rw rh M2 b2.rdI (by rw [hll]; exact hc2) (Nat.le_trans hlo q2.len)
    rw [hll] at f3
    refine Evp.ob f3 ?_
    rintro ⟨r, M3⟩ ⟨p3, h3⟩
    rw [if_pos ⟨by rw [hll]; exact hk, hwi⟩] at h3
    simp only [Int.toNat_natCast] at h3
    rw [cut_lay hnn (by omega) (by omega) (by rw [hl, hn])] at h3
    obtain ⟨A3, c3, rfl, g3, _⟩ := h3
    simp only [ret_int, ret_bool, ret_flt, ret_slc, ret_str, ret_ptr, ret_agg, ret_tup, ob_some, bb_true, bb_false, List.getElem?_cons_zero, List.getElem?_cons_succ, List.length_cons, List.length_nil, Nat.reduceAdd, Nat.reduceLT]
    have q3 := q2.trans p3
    refine Evp.ob (pcut_ok lo w h A c xs x y rw rh M3 (hx.pre q3) hc (Nat.le_trans hlo q3.len)) ?_
    rintro ⟨r, M4⟩ ⟨p4, h4⟩
    rw [if_pos ⟨hk, hwi⟩] at h4
    simp only [Int.toNat_natCast] at h4
    obtain ⟨A4, c4, rfl, g4, gc4⟩ := h4
    simp only [ret_int, ret_bool, ret_flt, ret_slc, ret_str, ret_ptr, ret_agg, ret_tup, ob_some, bb_true, bb_false, List.getElem?_cons_zero, List.getElem?_cons_succ, List.length_cons, List.length_nil, Nat.reduceAdd, Nat.reduceLT]
    have q4 := q3.trans p4
    have hcl := cutS_len w xs x y rw (rh * rw)
    have f5 := play_ok lo w h (some a2) c2 (layS w xs bs x y rw rh) x y rw rh A4 c4 (cutS w xs x y rw (rh * rw)) M4 (b2.rdI.pre (p3.trans p4)) g4.rdI gc4 (Nat.le_trans hlo q4.len)
    rw [hll] at f5
    refine Evp.ob f5 ?_
    rintro ⟨r, M5⟩ ⟨p5, h5⟩
    rw [if_pos ⟨by rw [hll]; exact hk, hwi, by rw [hcl, Int.natCast_mul, Int.mul_comm]⟩] at h5
    simp only [Int.toNat_natCast] at h5
    rw [lay_cut hnn (by omega) (by omega), hll] at h5
    obtain ⟨a5, c5, rfl, _, b5⟩ := h5
    simp only [ret_int, ret_bool, ret_flt, ret_slc, ret_str, ret_ptr, ret_agg, ret_tup, ob_some, bb_true, bb_false, List.getElem?_cons_zero, List.getElem?_cons_succ, List.length_cons, List.length_nil, Nat.reduceAdd, Nat.reduceLT]
    have q5 := q4.trans p5
    refine Evp.ff rfl (Evp.ff rfl (Evp.ff rfl (Evp.ff rfl ?_)))
    have f6 := eqBytes_ok lo A3 (some a) c3 i bs bs M5 (g3.rdI.pre (p4.trans p5)) (hb.rdI.pre (((p2.trans p3).trans p4).trans p5)) (by omega)
    rw [hl] at f6 ⊢
    refine Evp.ob f6 ?_
    rintro _ rfl
    simp only [ret_int, ret_bool, ret_flt, ret_slc, ret_str, ret_ptr, ret_agg, ret_tup, ob_some, bb_true, bb_false, List.getElem?_cons_zero, List.getElem?_cons_succ, List.length_cons, List.length_nil, Nat.reduceAdd, Nat.reduceLT]
    refine Evp.ff (by simp) ?_
    refine Evp.ob (same_ok _ _ _ _ _ _ _ _ _ _ _ _ b5.rdI (hx.pre q5) (by omega)) ?_
    rintro _ rfl
    simp only [ret_int, ret_bool, ret_flt, ret_slc, ret_str, ret_ptr, ret_agg, ret_tup, ob_some, bb_true, bb_false, List.getElem?_cons_zero, List.getElem?_cons_succ, List.length_cons, List.length_nil, Nat.reduceAdd, Nat.reduceLT]
    refine Evp.ff (by simp) ?_
    refine Evp.ff (by simp) ?_
    exact Evp.ret (laid_end lo w h x y rw rh xs bs A (some a2) c M5 (hx.pre q5) (b2.rdI.pre ((p3.trans p4).trans p5)) (by omega) (by omega) hnn (by omega) (by omega) c2 _ 0 rfl (by omega))
  | succ d ih =>
    intro i M hd hi hp hb
    refine Run.cut (Evp.of_eq (fun k => zoetropelaw05_PlaneLaid.p2036 k ..) ?_)
    refine Evp.dec (fun _ => ?_) fun h => absurd h (by omega)
    refine Evp.pos (by omega) (Evp.some rfl ?_)
    rw [Int.toNat_natCast]
    obtain ⟨M2, g1, g2, g3, g4, g5⟩ := hb.st (lo := lo) (i := i) (vs := [.int .u8 (seedF seed i)]) hp hlo (by simp [fillG_len]; omega)
    refine Evp.some g1 ?_
    rw [setL_one, set_map, fillG_set _ _ _ (by omega)] at g2
    rw [w64 (x := (i : Int) + 1) (by omega)]
    exact Evp.ret (ih (i + 1) M2 (by omega) (by omega) g3 g2)
end
theorem PlaneLaid_law (M : Mem) (vs : List Value) (hro : AllRo M) (hv : LaysArgs P M [24, 26, 3] vs) : Ac P T M.length F.zoetropelaw05_PlaneLaid vs M fun r => r.1 = .bool true := by
  obtain ⟨w, h, A, c, xs, x, y, rw', rh, seed, rfl, _, _, hc, hn, hx, wx, _⟩ := Arg.PlaneLaid hv
  refine Ac.of (Evp.of_eq (fun k => zoetropelaw05_PlaneLaid.entry k ..) ?_)
  refine Evp.ob (works_ok _ _ (Nat.le_refl _)) ?_
  rintro _ ⟨M1, rfl, p1⟩
  simp only [ret_int, ret_bool, ret_flt, ret_slc, ret_str, ret_ptr, ret_agg, ret_tup, ob_some, bb_true, bb_false, List.getElem?_cons_zero, List.getElem?_cons_succ, List.length_cons, List.length_nil, Nat.reduceAdd, Nat.reduceLT]
  refine Evp.ff rfl ?_
  refine Evp.ob (check_ok ..) ?_
  rintro _ rfl
  simp only [ret_int, ret_bool, ret_flt, ret_slc, ret_str, ret_ptr, ret_agg, ret_tup, ob_some, bb_true, bb_false, List.getElem?_cons_zero, List.getElem?_cons_succ, List.length_cons, List.length_nil, Nat.reduceAdd, Nat.reduceLT]
  have hx1 := hx.pre p1
  refine Evp.neb (fun hk => ?_) fun hk => ?_
  · refine Evp.ob (pcut_ok _ w h A c xs x y rw' rh M1 hx1 hc p1.len) ?_
    rintro ⟨r, M2⟩ ⟨p2, h2⟩
    rw [if_neg (fun e => hk e.1)] at h2
    subst h2
    simp only [ret_int, ret_bool, ret_flt, ret_slc, ret_str, ret_ptr, ret_agg, ret_tup, ob_some, bb_true, bb_false, List.getElem?_cons_zero, List.getElem?_cons_succ, List.length_cons, List.length_nil, Nat.reduceAdd, Nat.reduceLT]
    exact Evp.ret (Run.ret rfl)
  have hs := checkS_len' hk
  refine Evp.ob (solid_ok _ _ _ _ _ _ _ hk) ?_
  rintro _ rfl
  simp only [ret_int, ret_bool, ret_flt, ret_slc, ret_str, ret_ptr, ret_agg, ret_tup, ob_some, bb_true, bb_false, List.getElem?_cons_zero, List.getElem?_cons_succ, List.length_cons, List.length_nil, Nat.reduceAdd, Nat.reduceLT]
  refine Evp.ff rfl ?_
  obtain ⟨w, rfl⟩ := Int.eq_ofNat_of_zero_le (a := w) (by omega)
  obtain ⟨h, rfl⟩ := Int.eq_ofNat_of_zero_le (a := h) (by omega)
  refine Evp.ob (inside_ok _ _ _ A _ c x y rw' rh M1 (by omega) (by omega)) ?_
  rintro _ ⟨x2, y2, rw2, rh2, rfl, hwi⟩
  simp only [ret_int, ret_bool, ret_flt, ret_slc, ret_str, ret_ptr, ret_agg, ret_tup, ob_some, bb_true, bb_false, List.getElem?_cons_zero, List.getElem?_cons_succ, List.length_cons, List.length_nil, Nat.reduceAdd, Nat.reduceLT]
  have hwi' := hwi
  unfold WithinP at hwi'
  have hm : rh2 * rw2 ≤ 512 * 512 := Nat.mul_le_mul (by omega) (by omega)
  have e : (rw2 : Int) * (rh2 : Int) = ((rh2 * rw2 : Nat) : Int) := by rw [Int.natCast_mul, Int.mul_comm]
  rw [e, w64 (by omega)]
  refine Evp.pos ⟨by omega, by show ((rh2 * rw2 : Nat) : Int).toNat * 1 ≤ 140737488355328; omega⟩ ?_
  simp only [Int.toNat_natCast]
  refine Evp.ret (laid_loop seed w h x2 y2 rw2 rh2 xs A c M1 hx1 hc hk hwi M.length p1.len ⟨M1.length, 0, none⟩ (rh2 * rw2) rfl _ 0 _ rfl (by omega) (Pre.app _ _) ?_)
  rw [fillG_zero]; exact Buf.push (Pre.refl M1)
end Go.Zt
