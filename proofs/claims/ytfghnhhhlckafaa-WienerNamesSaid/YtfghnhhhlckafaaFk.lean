/- WienerStays, WienerNear. -/
import Derived.Test.YtfghnhhhlckafaaFj
set_option linter.unusedVariables false
set_option linter.unusedSimpArgs false
set_option maxRecDepth 100000
namespace Go.Zt
theorem planeOk_of {us : List Un} {w h nx nb sd : Nat} (hs : SideP sd) (hw : 1 ≤ w ∧ w ≤ 512) (hh : 1 ≤ h ∧ h ≤ 512) (hn : nx = h * w) (hnb : nb = h * w) (hl : us.length = wideN w sd * wideN h sd) (hu : ∀ u ∈ us, UnitP u) : PlaneOk us w h nx w h nb sd := by
  have hs' : sd = 64 ∨ sd = 32 := hs
  have e : ((h * w : Nat) : Int) = (w : Int) * h := by rw [Nat.mul_comm]; exact Int.natCast_mul w h
  have c : checkS w h ((h * w : Nat) : Int) = 0 := by
    unfold checkS; rw [if_pos ⟨by omega, by omega, by omega, by omega, e⟩]
  subst hn; subst hnb
  exact ⟨c, c, rfl, rfl, by omega, by simp only [Int.toNat_natCast]; exact hl, hu⟩
section
variable (lo : Nat) (AU A B : Option Addr) (cu cap capb : Nat) (us : List Un) (xs bs : List Int) (w h sd : Nat) (M0 : Mem)
variable (hlo : lo ≤ M0.length) (hU : RdU M0 AU us) (hx : RdI M0 .u8 A xs) (hb : RdI M0 .u8 B bs) (bx : Bytes xs) (bb' : Bytes bs) (hcap : xs.length ≤ cap) (hcapb : bs.length ≤ capb)
variable (hs : SideP sd) (hw : 1 ≤ w ∧ w ≤ 512) (hh : 1 ≤ h ∧ h ≤ 512) (hn : xs.length = h * w) (hnb : bs.length = h * w) (hl : us.length = wideN w sd * wideN h sd) (hu : ∀ u ∈ us, UnitP u ∧ u.wf)
include hlo hU hx hb bx bb' hcap hcapb hs hw hh hn hnb hl hu
theorem plane_nat : Ac P T lo F.wiener_Plane [.agg ⟨[.int .i64 w, .int .i64 h, .slice A xs.length cap]⟩, .agg ⟨[.int .i64 w, .int .i64 h, .slice B bs.length capb]⟩, .slice AU us.length cu, .int .i64 sd] M0 fun r => ∃ a cc M', r = (.tuple ⟨[.agg ⟨[.int .i64 w, .int .i64 h, .slice (some a) xs.length cc]⟩, .int .i64 0]⟩, M') ∧ Pre M0 M' ∧ RdI M' .u8 (some a) (outW us xs bs w h sd) := by
  obtain ⟨e1, a1, a2⟩ := wide_eq (n := w) hs (by omega)
  obtain ⟨e2, b1, b2⟩ := wide_eq (n := h) hs (by omega)
  have sm : wideN w sd * wideN h sd ≤ 16 * 16 := Nat.mul_le_mul a2 b2
  refine Ac.mono (plane_ok lo AU A B cu cap capb us xs bs w h w h sd M0 hlo hU (fun u h => (hu u h).2) (by omega) hx hb bx bb' hcap hcapb) ?_
  rintro ⟨v, M4⟩ h4
  obtain ⟨a, cc, rfl, p4, hc4, b4⟩ := h4.got (planeOk_of hs hw hh hn hnb hl fun u h => (hu u h).1)
  simp only [Int.toNat_natCast] at b4
  exact ⟨a, cc, M4, rfl, p4, b4.rdI⟩
end
theorem rep_u {n k : Nat} {u : Un} (h : k < n) : (List.replicate n u).getD k u0 = u := by
  rw [List.getD_eq_getElem?_getD, List.getElem?_replicate, if_pos h]; rfl
theorem rep_v {n k : Nat} {v : Int} (h : k < n) : (List.replicate n v).getD k 0 = v := by
  rw [List.getD_eq_getElem?_getD, List.getElem?_replicate, if_pos h]; rfl
theorem may_wf {u : Un} (h : UnitP u) : UnitP u ∧ u.wf := by
  refine ⟨h, ?_⟩
  rcases h with ⟨_, h1, h2⟩ | rfl
  · exact ⟨h1.wf.1, h1.wf.2.1, h1.wf.2.2, h2.wf.1, h2.wf.2.1, h2.wf.2.2⟩
  · unfold Un.wf wfI u0; decide
theorem rep_may {n : Nat} {u : Un} (h : UnitP u) : ∀ x ∈ List.replicate n u, UnitP x ∧ x.wf := fun x hx => by
  rw [(List.mem_replicate.1 hx).2]; exact may_wf h
theorem flat_out {n w h sd : Nat} {v : Int} {u : Un} (hv : 0 ≤ v ∧ v ≤ 255) (hs : SideP sd) (hw : 1 ≤ w) (hu : TapsP u.v ∧ TapsP u.h) (hn : n = wideN w sd * wideN h sd) : outW (List.replicate n u) (List.replicate (w * h) v) (List.replicate (w * h) v) w h sd = List.replicate (w * h) v := by
  refine outW_same (by rw [List.length_replicate, Nat.mul_comm]) hw fun y x hy hx hon => ?_
  have ul := unit_lt hs hy hx
  rw [rep_u (by omega)] at hon ⊢
  have hlt : ∀ y x, y < h → x < w → (List.replicate (w * h) v).getD (y * w + x) 0 = v := fun y x hy hx => rep_v (by have := row_lt hy hx; rwa [Nat.mul_comm w h])
  have g : ∀ i j, i < 7 → j < 7 → (List.replicate (w * h) v).getD (rowN h sd y i * w + cxS w x j) 0 = v := fun i j hi hj => hlt _ _ (row_le hs hy hi).2 (cx_eq (by omega)).2
  rw [hlt y x hy hx]
  exact flat_sampU hu.1 hu.2 hv g g
theorem zero_out {n w h sd : Nat} {xs bs : List Int} (bx : Bytes xs) (hs : SideP sd) (hw : 1 ≤ w) (hl : xs.length = h * w) (hn : n = wideN w sd * wideN h sd) : outW (List.replicate n ⟨true, t0, t0⟩) xs bs w h sd = xs := by
  refine outW_same hl hw fun y x hy hx hon => ?_
  have ul := unit_lt hs hy hx
  rw [rep_u (by omega)]
  exact zero_sampU bx hs hy hx
theorem off_out {n w h sd : Nat} {xs bs : List Int} (hs : SideP sd) (hw : 1 ≤ w) (hl : xs.length = h * w) (hn : n = wideN w sd * wideN h sd) : outW (List.replicate n u0) xs bs w h sd = xs := by
  refine outW_same hl hw fun y x hy hx hon => ?_
  have ul := unit_lt hs hy hx
  rw [rep_u (by omega)] at hon
  cases hon
section
variable (w h : Nat) (A : Option Addr) (cap : Nat) (xs : List Int) (v : Int) (s t : Tp) (a : Addr) (M0 : Mem) (hw : 1 ≤ w ∧ w ≤ 512) (hh : 1 ≤ h ∧ h ≤ 512) (hn : xs.length = h * w) (hx : RdI M0 .u8 A xs) (bx : Bytes xs) (hc : xs.length ≤ cap) (hv : 0 ≤ v ∧ v ≤ 255) (hq : RdI M0 .u8 (some a) (List.replicate (w * h) v))
include hw hh hn hx bx hc hv hq
theorem stays_step (lo : Nat) (sd : Nat) (hs : SideP sd) (M : Mem) (hlo : lo ≤ M0.length) (hp : Pre M0 M) (next : ∀ M', Pre M0 M' → Run P T lo F.zoetropelaw24_WienerStays (zoetropelaw24_WienerStays.c1012 ((2 * sd : Nat) : Int) w h A xs.length cap s.a s.b s.c t.a t.b t.c w h (some a) (w * h) (w * h) M') fun r => r.1 = .bool true) :
    Run P T lo F.zoetropelaw24_WienerStays (zoetropelaw24_WienerStays.c1012 sd w h A xs.length cap s.a s.b s.c t.a t.b t.c w h (some a) (w * h) (w * h) M) fun r => r.1 = .bool true := by
  have hs' : sd = 64 ∨ sd = 32 := hs
  have sm : h * w ≤ 512 * 512 := Nat.mul_le_mul hh.2 hw.2
  have hm : w * h = h * w := Nat.mul_comm w h
  have bq : Bytes (List.replicate (w * h) v) := fun x hx => by rw [(List.mem_replicate.1 hx).2]; exact hv
  have lq : (List.replicate (w * h) v).length = w * h := List.length_replicate
  refine Run.cut (Evp.of_eq (fun k => zoetropelaw24_WienerStays.p1012 k ..) ?_)
  refine Evp.dec (fun _ => ?_) fun h => absurd h (by omega)
  refine Evp.ob (made_ok M.length s M) ?_
  rintro _ rfl
  simp only [ret_int, ret_bool, ret_flt, ret_slc, ret_str, ret_ptr, ret_agg, ret_tup, ob_some, bb_true, bb_false, List.getElem?_cons_zero, List.getElem?_cons_succ, List.length_cons, List.length_nil, Nat.reduceAdd, Nat.reduceLT]
  refine Evp.ob (made_ok M.length t M) ?_
  rintro _ rfl
  simp only [ret_int, ret_bool, ret_flt, ret_slc, ret_str, ret_ptr, ret_agg, ret_tup, ob_some, bb_true, bb_false, List.getElem?_cons_zero, List.getElem?_cons_succ, List.length_cons, List.length_nil, Nat.reduceAdd, Nat.reduceLT]
  have u1 : UnitP ⟨true, madeT s, madeT t⟩ := .inl ⟨rfl, madeT_may s, madeT_may t⟩
  have u2 : UnitP u0 := .inr rfl
  have u3 : UnitP ⟨true, t0, t0⟩ := .inl ⟨rfl, by decide, by decide⟩
  refine Evp.ob (all_ok M.length w h sd (some a) (w * h) (w * h) ⟨true, madeT s, madeT t⟩ M (Nat.le_refl _) hs hw hh) ?_
  rintro _ ⟨A1, c1, M1, rfl, p1, g1⟩
  simp only [ret_int, ret_bool, ret_flt, ret_slc, ret_str, ret_ptr, ret_agg, ret_tup, ob_some, bb_true, bb_false, List.getElem?_cons_zero, List.getElem?_cons_succ, List.length_cons, List.length_nil, Nat.reduceAdd, Nat.reduceLT]
  have r1 : RdU M1 A1 _ := g1.rdU (by simp)
  have P1 := plane_nat M.length A1 (some a) (some a) c1 (w * h) (w * h) _ (List.replicate (w * h) v) (List.replicate (w * h) v) w h sd M1 p1.len r1 (hq.pre (hp.trans p1)) (hq.pre (hp.trans p1)) bq bq (by rw [lq]; exact Nat.le_refl _) (by rw [lq]; exact Nat.le_refl _) hs hw hh (by omega) (by omega) (by simp) (rep_may u1)
  rw [lq, List.length_replicate] at P1
  refine Evp.ob P1 ?_
  rintro _ ⟨a1, cc1, M2, rfl, p2, b2⟩
  simp only [ret_int, ret_bool, ret_flt, ret_slc, ret_str, ret_ptr, ret_agg, ret_tup, ob_some, bb_true, bb_false, List.getElem?_cons_zero, List.getElem?_cons_succ, List.length_cons, List.length_nil, Nat.reduceAdd, Nat.reduceLT]
  rw [flat_out hv hs hw.1 ⟨madeT_may s, madeT_may t⟩ rfl] at b2
  refine Evp.ob (all_ok M2.length w h sd A xs.length cap u0 M2 (Nat.le_refl _) hs hw hh) ?_
  rintro _ ⟨A3, c3, M3, rfl, p3, g3⟩
  simp only [ret_int, ret_bool, ret_flt, ret_slc, ret_str, ret_ptr, ret_agg, ret_tup, ob_some, bb_true, bb_false, List.getElem?_cons_zero, List.getElem?_cons_succ, List.length_cons, List.length_nil, Nat.reduceAdd, Nat.reduceLT]
  have q3 := hp.trans ((p1.trans p2).trans p3)
  have r3 : RdU M3 A3 _ := g3.rdU (by simp)
  have P2 := plane_nat M2.length A3 A (some a) c3 cap (w * h) _ xs (List.replicate (w * h) v) w h sd M3 p3.len r3 (hx.pre q3) (hq.pre q3) bx bq hc (by rw [lq]; exact Nat.le_refl _) hs hw hh hn (by omega) (by simp) (rep_may u2)
  rw [lq, List.length_replicate] at P2
  refine Evp.ob P2 ?_
  rintro _ ⟨a2, cc2, M4, rfl, p4, b4⟩
  simp only [ret_int, ret_bool, ret_flt, ret_slc, ret_str, ret_ptr, ret_agg, ret_tup, ob_some, bb_true, bb_false, List.getElem?_cons_zero, List.getElem?_cons_succ, List.length_cons, List.length_nil, Nat.reduceAdd, Nat.reduceLT]
  rw [off_out hs hw.1 hn rfl] at b4
  refine Evp.ob (all_ok M4.length w h sd A xs.length cap ⟨true, t0, t0⟩ M4 (Nat.le_refl _) hs hw hh) ?_
  rintro _ ⟨A5, c5, M5, rfl, p5, g5⟩
  simp only [ret_int, ret_bool, ret_flt, ret_slc, ret_str, ret_ptr, ret_agg, ret_tup, ob_some, bb_true, bb_false, List.getElem?_cons_zero, List.getElem?_cons_succ, List.length_cons, List.length_nil, Nat.reduceAdd, Nat.reduceLT]
  have q5 := q3.trans (p4.trans p5)
  have r5 : RdU M5 A5 _ := g5.rdU (by simp)
  have P3 := plane_nat M4.length A5 A A c5 cap cap _ xs xs w h sd M5 p5.len r5 (hx.pre q5) (hx.pre q5) bx bx hc hc hs hw hh hn hn (by simp) (rep_may u3)
  rw [List.length_replicate] at P3
  refine Evp.ob P3 ?_
  rintro _ ⟨a3, cc3, M6, rfl, p6, b6⟩
  simp only [ret_int, ret_bool, ret_flt, ret_slc, ret_str, ret_ptr, ret_agg, ret_tup, ob_some, bb_true, bb_false, List.getElem?_cons_zero, List.getElem?_cons_succ, List.length_cons, List.length_nil, Nat.reduceAdd, Nat.reduceLT]
  rw [zero_out bx hs hw.1 hn rfl] at b6
  have q6 := q5.trans p6
  refine Evp.neb (fun e => absurd rfl e) fun _ => Evp.neb (fun e => absurd rfl e) fun _ => Evp.neb (fun e => absurd rfl e) fun _ => ?_
  have S1 := same_ok lo w h w h (some a1) (some a) cc1 (w * h) (List.replicate (w * h) v) (List.replicate (w * h) v) M6 (((b2.pre p3).pre (p4.trans p5)).pre p6) (hq.pre q6) (by omega)
  rw [lq] at S1
  refine Evp.ob S1 ?_
  rintro _ rfl
  simp only [ret_int, ret_bool, ret_flt, ret_slc, ret_str, ret_ptr, ret_agg, ret_tup, ob_some, bb_true, bb_false, List.getElem?_cons_zero, List.getElem?_cons_succ, List.length_cons, List.length_nil, Nat.reduceAdd, Nat.reduceLT]
  refine Evp.ff (by simp) ?_
  refine Evp.ob (same_ok lo w h w h (some a2) A cc2 cap xs xs M6 ((b4.pre p5).pre p6) (hx.pre q6) (by omega)) ?_
  rintro _ rfl
  simp only [ret_int, ret_bool, ret_flt, ret_slc, ret_str, ret_ptr, ret_agg, ret_tup, ob_some, bb_true, bb_false, List.getElem?_cons_zero, List.getElem?_cons_succ, List.length_cons, List.length_nil, Nat.reduceAdd, Nat.reduceLT]
  refine Evp.ff (by simp) ?_
  refine Evp.ob (same_ok lo w h w h (some a3) A cc3 cap xs xs M6 b6 (hx.pre q6) (by omega)) ?_
  rintro _ rfl
  simp only [ret_int, ret_bool, ret_flt, ret_slc, ret_str, ret_ptr, ret_agg, ret_tup, ob_some, bb_true, bb_false, List.getElem?_cons_zero, List.getElem?_cons_succ, List.length_cons, List.length_nil, Nat.reduceAdd, Nat.reduceLT]
  refine Evp.ff (by simp) ?_
  rw [w64 (by omega), show (sd : Int) * 2 = ((2 * sd : Nat) : Int) by omega]
  exact Evp.ret (next M6 q6)
end
theorem WienerStays_law (M : Mem) (vs : List Value) (hro : AllRo M) (hv : LaysArgs P M [35, 5, 44] vs) : Ac P T M.length F.zoetropelaw24_WienerStays vs M fun r => r.1 = .bool true := by
  obtain ⟨w, h, A, cap, xs, v, a1, a2, a3, a4, a5, a6, rfl, _, _, hc, hn, hx, wx, wv, _⟩ := Arg.WienerStays hv
  have bx : Bytes xs := fun x hx => wf_u8 (wx x hx)
  have hv' := wf_u8 wv
  refine Ac.of (Evp.of_eq (fun k => zoetropelaw24_WienerStays.entry k ..) ?_)
  refine Evp.ob (awake_ok M.length M (Nat.le_refl _)) ?_
  rintro _ ⟨M1, rfl, p1⟩
  simp only [ret_int, ret_bool, ret_flt, ret_slc, ret_str, ret_ptr, ret_agg, ret_tup, ob_some, bb_true, bb_false, List.getElem?_cons_zero, List.getElem?_cons_succ, List.length_cons, List.length_nil, Nat.reduceAdd, Nat.reduceLT]
  refine Evp.ff rfl ?_
  refine Evp.ob (check_ok ..) ?_
  rintro _ rfl
  simp only [ret_int, ret_bool, ret_flt, ret_slc, ret_str, ret_ptr, ret_agg, ret_tup, ob_some, bb_true, bb_false, List.getElem?_cons_zero, List.getElem?_cons_succ, List.length_cons, List.length_nil, Nat.reduceAdd, Nat.reduceLT]
  refine Evp.neb (fun _ => Evp.ret (Run.ret rfl)) fun k1 => ?_
  have s1 := checkS_len' k1
  obtain ⟨w, rfl⟩ := Int.eq_ofNat_of_zero_le (a := w) (by omega)
  obtain ⟨h, rfl⟩ := Int.eq_ofNat_of_zero_le (a := h) (by omega)
  have n1 : xs.length = h * w := by have := s1.2.2.2.2; rw [← Int.natCast_mul, Nat.mul_comm] at this; omega
  refine Evp.ob (new_nat M.length w h v M1 p1.len (by omega) (by omega)) ?_
  rintro _ ⟨a, M2, rfl, p2, b2⟩
  simp only [ret_int, ret_bool, ret_flt, ret_slc, ret_str, ret_ptr, ret_agg, ret_tup, ob_some, bb_true, bb_false, List.getElem?_cons_zero, List.getElem?_cons_succ, List.length_cons, List.length_nil, Nat.reduceAdd, Nat.reduceLT]
  refine Evp.neb (fun e => absurd rfl e) fun _ => ?_
  have q2 := p1.trans p2
  have st := fun sd hs M3 hp next => stays_step w h A cap xs v ⟨a1, a2, a3⟩ ⟨a4, a5, a6⟩ a M2 (by omega) (by omega) n1 (hx.pre q2) bx hc hv' b2.rdI M.length sd hs M3 q2.len hp next
  refine Evp.ret (st 32 (.inr rfl) M2 (Pre.refl _) fun M3 p3 => st 64 (.inl rfl) M3 p3 fun M4 p4 => ?_)
  refine Run.cut (Evp.of_eq (fun k => zoetropelaw24_WienerStays.p1012 k ..) ?_)
  refine Evp.dec (fun h => absurd h (by decide)) fun _ => Evp.ret (Run.ret rfl)
/-! ### Near -/
def farP (w i cx cy : Nat) : Prop := (i % w : Int) - cx > 3 ∨ (cx : Int) - (i % w : Nat) > 3 ∨ ((i / w : Nat) : Int) - cy > 3 ∨ (cy : Int) - (i / w : Nat) > 3
theorem tgt_far {us : List Un} {xs bs ys cs : List Int} {w h sd i cx cy : Nat} (hs : SideP sd) (hw : 1 ≤ w) (hi : i < h * w) (hcx : cx < w) (h1 : ∀ q, q ≠ cy * w + cx → xs.getD q 0 = ys.getD q 0) (h2 : ∀ q, q ≠ cy * w + cx → bs.getD q 0 = cs.getD q 0) (hf : farP w i cx cy) : tgtW us xs bs w h sd i = tgtW us ys cs w h sd i := by
  have hy : i / w < h := (Nat.div_lt_iff_lt_mul (by omega)).2 hi
  have hx : i % w < w := Nat.mod_lt _ (by omega)
  have hf' : (i % w : Int) - cx > 3 ∨ (cx : Int) - (i % w : Nat) > 3 ∨ ((i / w : Nat) : Int) - cy > 3 ∨ (cy : Int) - (i / w : Nat) > 3 := hf
  have ne : ∀ r c : Nat, c < w → ((r : Int) ≤ (i / w : Nat) + 3 ∧ ((i / w : Nat) : Int) - 3 ≤ r) → ((c : Int) ≤ (i % w : Nat) + 3 ∧ ((i % w : Nat) : Int) - 3 ≤ c) → r * w + c ≠ cy * w + cx := fun r c hc hr hc' e => by
    have d1 := dmw (q := r) hc
    have d2 := dmw (q := cy) hcx
    rw [e] at d1
    have e1 : r = cy := by rw [← d1.1, d2.1]
    have e2 : c = cx := by rw [← d1.2, d2.2]
    subst e1; subst e2
    generalize i / w = q at *
    have : ((i % w : Nat) : Int) = (i : Int) % w := by omega
    omega
  have e : i / w * w + i % w = i := by rw [Nat.mul_comm]; exact Nat.div_add_mod i w
  unfold tgtW
  split
  · exact sampU_congr (fun a b ha hb => h1 _ (ne _ _ (cx_eq hw).2 (row_near hs hy ha) (col_near hx hb))) fun a b ha hb => h2 _ (ne _ _ (cx_eq hw).2 (row_near hs hy ha) (col_near hx hb))
  · have := ne (i / w) (i % w) hx (by omega) (by omega)
    rw [e] at this
    exact h1 _ this
section
variable (w h cx cy : Nat) (P1 P2 P3 : Option Addr) (n c1 c2 c3 : Nat) (xs ys zs : List Int) (M : Mem) (w' h' w2 h2 : Int)
variable (hw : 1 ≤ w ∧ w ≤ 512) (hcx : cx < 512) (hcy : cy < 512) (hx : RdI M .u8 P1 xs) (hz : RdI M .u8 P3 zs) (h1 : xs.length = n) (h3 : zs.length = n) (sm : n ≤ 262144) (hf : ∀ i, i < n → farP w i cx cy → xs.getD i 0 = zs.getD i 0)
include hw hcx hcy hx hz h1 h3 sm hf
theorem near_loop (lo : Nat) : ∀ (d i : Nat), n - i = d → i ≤ n → Run P T lo F.zoetropelaw24_WienerNear (zoetropelaw24_WienerNear.c131060 cx cy i w' h' P1 n c1 w h P2 n c2 w2 h2 P3 n c3 M) fun r => r.1 = .bool true := by
  intro d
  induction d with
  | zero =>
    intro i hd hi
    refine Run.cut (Evp.of_eq (fun k => zoetropelaw24_WienerNear.p131060 k ..) ?_)
    refine Evp.dec (fun h => absurd h (by omega)) fun _ => Evp.ret (Run.ret rfl)
  | succ d ih =>
    intro i hd hi
    have l1 : i / w ≤ 262144 := Nat.le_trans (Nat.div_le_self _ _) (by omega)
    have l2 : i % w < w := Nat.mod_lt _ (by omega)
    refine Run.cut (Evp.of_eq (fun k => zoetropelaw24_WienerNear.p131060 k ..) ?_)
    refine Evp.dec (fun _ => ?_) fun h => absurd h (by omega)
    refine Evp.neg (by omega) (Evp.neg (by omega) (Evp.neg (by omega) (Evp.neg (by omega) ?_)))
    rw [show Int.tdiv (i : Int) (w : Int) = ((i / w : Nat) : Int) from rfl, show Int.tmod (i : Int) (w : Int) = ((i % w : Nat) : Int) from rfl]
    have hfar := hf i (by omega)
    unfold farP at hfar
    have em : ((i % w : Nat) : Int) = (i : Int) % w := by omega
    rw [← em] at hfar
    generalize i / w = q at *
    generalize i % w = r at *
    rw [w64 (x := ((q : Nat) : Int)) (by omega), w64 (x := (r : Int) - cx) (by omega), w64 (x := (cx : Int) - r) (by omega), w64 (x := (q : Int) - cy) (by omega), w64 (x := (cy : Int) - q) (by omega), w64 (x := (i : Int) + 1) (by omega)]
    have nx : Evp (fun k => some (zoetropelaw24_WienerNear.c131060 cx cy ((i : Int) + 1) w' h' P1 n c1 w h P2 n c2 w2 h2 P3 n c3 M)) fun out => Run P T lo F.zoetropelaw24_WienerNear out fun r => r.1 = .bool true := Evp.ret (ih (i + 1) (by omega) (by omega))
    refine Evp.dec (fun g => ?_) fun _ => nx
    have := hfar (by
      unfold maxI at g
      repeat' split at g
      all_goals omega)
    refine Evp.pos (by omega) ?_
    simp only [Int.toNat_natCast]
    refine Evp.ldI hx (by omega) fun _ _ => ?_
    refine Evp.pos (by omega) ?_
    refine Evp.ldI hz (by omega) fun _ _ => ?_
    exact Evp.neb (fun e => absurd this e) fun _ => nx
end
theorem getD_turn {xs : List Int} {p : Nat} {v : Int} (hp : p < xs.length) : ∀ q, q ≠ p → xs.getD q 0 = (xs.set p v).getD q 0 := fun q hq => by
  rw [getD_set hp, if_neg hq]
theorem xor_byte (x : Int) : 0 ≤ xorI .u8 x 128 ∧ xorI .u8 x 128 ≤ 255 := by
  unfold xorI
  rw [IntKind.wrap_u8]
  omega
theorem WienerNear_law (M : Mem) (vs : List Value) (hro : AllRo M) (hv : LaysArgs P M [37, 22, 44] vs) : Ac P T M.length F.zoetropelaw24_WienerNear vs M fun r => r.1 = .bool true := by
  obtain ⟨w, h, A, cap, xs, w', h', B, capb, bs, t1, t2, t3, a1, a2, a3, a4, a5, a6, rfl, _, _, hc, hn, hx, wx, _, _, hc', hn', hb, wb, _⟩ := Arg.WienerNear hv
  have bx : Bytes xs := fun x hx => wf_u8 (wx x hx)
  have bb : Bytes bs := fun x hx => wf_u8 (wb x hx)
  refine Ac.of (Evp.of_eq (fun k => zoetropelaw24_WienerNear.entry k ..) ?_)
  refine Evp.ob (awake_ok M.length M (Nat.le_refl _)) ?_
  rintro _ ⟨M1, rfl, p1⟩
  simp only [ret_int, ret_bool, ret_flt, ret_slc, ret_str, ret_ptr, ret_agg, ret_tup, ob_some, bb_true, bb_false, List.getElem?_cons_zero, List.getElem?_cons_succ, List.length_cons, List.length_nil, Nat.reduceAdd, Nat.reduceLT]
  refine Evp.ff rfl ?_
  refine Evp.ob (check_ok ..) ?_
  rintro _ rfl
  simp only [ret_int, ret_bool, ret_flt, ret_slc, ret_str, ret_ptr, ret_agg, ret_tup, ob_some, bb_true, bb_false, List.getElem?_cons_zero, List.getElem?_cons_succ, List.length_cons, List.length_nil, Nat.reduceAdd, Nat.reduceLT]
  refine Evp.neb (fun _ => Evp.ret (Run.ret rfl)) fun k1 => ?_
  refine Evp.ob (check_ok ..) ?_
  rintro _ rfl
  simp only [ret_int, ret_bool, ret_flt, ret_slc, ret_str, ret_ptr, ret_agg, ret_tup, ob_some, bb_true, bb_false, List.getElem?_cons_zero, List.getElem?_cons_succ, List.length_cons, List.length_nil, Nat.reduceAdd, Nat.reduceLT]
  refine Evp.neb (fun _ => Evp.ret (Run.ret rfl)) fun k2 => ?_
  refine Evp.neb (fun _ => Evp.ret (Run.ret rfl)) fun k3 => ?_
  refine Evp.neb (fun _ => Evp.ret (Run.ret rfl)) fun k4 => ?_
  subst k3; subst k4
  have s1 := checkS_len' k1
  have s2 := checkS_len' k2
  obtain ⟨w, rfl⟩ := Int.eq_ofNat_of_zero_le (a := w) (by omega)
  obtain ⟨h, rfl⟩ := Int.eq_ofNat_of_zero_le (a := h) (by omega)
  have hw : 1 ≤ w ∧ w ≤ 512 := by omega
  have hh : 1 ≤ h ∧ h ≤ 512 := by omega
  have n1 : xs.length = h * w := by have := s1.2.2.2.2; rw [← Int.natCast_mul, Nat.mul_comm] at this; omega
  have n2 : bs.length = h * w := by have := s2.2.2.2.2; rw [← Int.natCast_mul, Nat.mul_comm] at this; omega
  have sm : h * w ≤ 512 * 512 := Nat.mul_le_mul hh.2 hw.2
  refine Evp.ob (bring_ok _ _ _ _ (by decide)) ?_
  rintro _ rfl
  simp only [ret_int, ret_bool, ret_flt, ret_slc, ret_str, ret_ptr, ret_agg, ret_tup, ob_some, bb_true, bb_false, List.getElem?_cons_zero, List.getElem?_cons_succ, List.length_cons, List.length_nil, Nat.reduceAdd, Nat.reduceLT]
  have hb2 := bringS_lt (i := t3) (n := 2) (by decide)
  obtain ⟨sd, hsd, hs⟩ : ∃ sd : Nat, IntKind.i64.wrap (32 + (IntKind.i64.wrap (32 * bringS t3 2))) = (sd : Int) ∧ SideP sd := by
    rw [w64 (x := 32 * bringS t3 2) (by omega), w64 (by omega)]
    have : bringS t3 2 = 0 ∨ bringS t3 2 = 1 := by omega
    rcases this with e | e <;> rw [e]
    · exact ⟨32, rfl, .inr rfl⟩
    · exact ⟨64, rfl, .inl rfl⟩
  rw [hsd]
  refine Evp.ob (made_ok M1.length ⟨a1, a2, a3⟩ M1) ?_
  rintro _ rfl
  simp only [ret_int, ret_bool, ret_flt, ret_slc, ret_str, ret_ptr, ret_agg, ret_tup, ob_some, bb_true, bb_false, List.getElem?_cons_zero, List.getElem?_cons_succ, List.length_cons, List.length_nil, Nat.reduceAdd, Nat.reduceLT]
  refine Evp.ob (made_ok M1.length ⟨a4, a5, a6⟩ M1) ?_
  rintro _ rfl
  simp only [ret_int, ret_bool, ret_flt, ret_slc, ret_str, ret_ptr, ret_agg, ret_tup, ob_some, bb_true, bb_false, List.getElem?_cons_zero, List.getElem?_cons_succ, List.length_cons, List.length_nil, Nat.reduceAdd, Nat.reduceLT]
  have u1 : UnitP ⟨true, madeT ⟨a1, a2, a3⟩, madeT ⟨a4, a5, a6⟩⟩ := .inl ⟨rfl, madeT_may _, madeT_may _⟩
  refine Evp.ob (all_ok M1.length w h sd A xs.length cap ⟨true, madeT ⟨a1, a2, a3⟩, madeT ⟨a4, a5, a6⟩⟩ M1 (Nat.le_refl _) hs hw hh) ?_
  rintro _ ⟨A1, c1, M2, rfl, p2, g2⟩
  simp only [ret_int, ret_bool, ret_flt, ret_slc, ret_str, ret_ptr, ret_agg, ret_tup, ob_some, bb_true, bb_false, List.getElem?_cons_zero, List.getElem?_cons_succ, List.length_cons, List.length_nil, Nat.reduceAdd, Nat.reduceLT]
  generalize hun : (⟨true, madeT ⟨a1, a2, a3⟩, madeT ⟨a4, a5, a6⟩⟩ : Un) = u at *
  have q2 := p1.trans p2
  have r2 : RdU M2 A1 _ := g2.rdU (by simp)
  have P1 := plane_nat M.length A1 A B c1 cap capb _ xs bs w h sd M2 q2.len r2 (hx.pre q2) (hb.pre q2) bx bb hc hc' hs hw hh n1 n2 (by simp) (rep_may u1)
  rw [List.length_replicate] at P1
  refine Evp.ob P1 ?_
  rintro _ ⟨a, ca, M3, rfl, p3, b3⟩
  simp only [ret_int, ret_bool, ret_flt, ret_slc, ret_str, ret_ptr, ret_agg, ret_tup, ob_some, bb_true, bb_false, List.getElem?_cons_zero, List.getElem?_cons_succ, List.length_cons, List.length_nil, Nat.reduceAdd, Nat.reduceLT]
  have q3 := q2.trans p3
  refine Evp.ob (bring_ok _ _ _ _ (by omega)) ?_
  rintro _ rfl
  simp only [ret_int, ret_bool, ret_flt, ret_slc, ret_str, ret_ptr, ret_agg, ret_tup, ob_some, bb_true, bb_false, List.getElem?_cons_zero, List.getElem?_cons_succ, List.length_cons, List.length_nil, Nat.reduceAdd, Nat.reduceLT]
  refine Evp.ob (bring_ok _ _ _ _ (by omega)) ?_
  rintro _ rfl
  simp only [ret_int, ret_bool, ret_flt, ret_slc, ret_str, ret_ptr, ret_agg, ret_tup, ob_some, bb_true, bb_false, List.getElem?_cons_zero, List.getElem?_cons_succ, List.length_cons, List.length_nil, Nat.reduceAdd, Nat.reduceLT]
  have hcx := bringS_lt (i := t1) (n := w) (by omega)
  have hcy := bringS_lt (i := t2) (n := h) (by omega)
  generalize bringS t1 (w : Int) = cx at *
  generalize bringS t2 (h : Int) = cy at *
  obtain ⟨cx, rfl⟩ := Int.eq_ofNat_of_zero_le hcx.1
  obtain ⟨cy, rfl⟩ := Int.eq_ofNat_of_zero_le hcy.1
  refine Evp.ob (copyBytes_ok M3.length A cap xs M3 (hx.pre q3) (by omega) (Nat.le_refl _)) ?_
  rintro _ ⟨A4, c4, M4, rfl, p4, l4, g4⟩
  simp only [ret_int, ret_bool, ret_flt, ret_slc, ret_str, ret_ptr, ret_agg, ret_tup, ob_some, bb_true, bb_false, List.getElem?_cons_zero, List.getElem?_cons_succ, List.length_cons, List.length_nil, Nat.reduceAdd, Nat.reduceLT]
  have q4 := q3.trans p4
  refine Evp.ob (copyBytes_ok M4.length B capb bs M4 (hb.pre q4) (by omega) (Nat.le_refl _)) ?_
  rintro _ ⟨A5, c5, M5, rfl, p5, l5, g5⟩
  simp only [ret_int, ret_bool, ret_flt, ret_slc, ret_str, ret_ptr, ret_agg, ret_tup, ob_some, bb_true, bb_false, List.getElem?_cons_zero, List.getElem?_cons_succ, List.length_cons, List.length_nil, Nat.reduceAdd, Nat.reduceLT]
  have q5 := q4.trans p5
  have hp0 : cy * w + cx < h * w := row_lt (by omega) (by omega)
  have ep : IntKind.i64.wrap ((IntKind.i64.wrap ((cy : Int) * w)) + (cx : Int)) = ((cy * w + cx : Nat) : Int) := by
    rw [← Int.natCast_mul, w64 (x := ((cy * w : Nat) : Int)) (by omega), w64 (by omega)]; omega
  rw [ep]
  -- both planes, then the compare
  have fin : ∀ (B4 B5 : Option Addr) (ys cs : List Int) (M6 : Mem), Pre M3 M6 → RdI M6 .u8 B4 ys → RdI M6 .u8 B5 cs → Bytes ys → Bytes cs → ys.length = h * w → cs.length = h * w → (∀ q, q ≠ cy * w + cx → xs.getD q 0 = ys.getD q 0) → (∀ q, q ≠ cy * w + cx → bs.getD q 0 = cs.getD q 0) → ys.length ≤ c4 → cs.length ≤ c5 →
      Run P T M.length F.zoetropelaw24_WienerNear (zoetropelaw24_WienerNear.c2047 sd A1 (wideN w sd * wideN h sd) c1 0 cx cy w h (some a) xs.length ca w h B4 xs.length c4 w h B5 bs.length c5 M6) fun r => r.1 = .bool true := by
    intro B4 B5 ys cs M6 p6 r4 r5 b4 b5 m4 m5 d4 d5 f4 f5
    refine Run.cut (Evp.of_eq (fun k => zoetropelaw24_WienerNear.p2047 k ..) ?_)
    have P2 := plane_nat M.length A1 B4 B5 c1 c4 c5 _ ys cs w h sd M6 (q3.trans p6).len ((r2.pre p3).pre p6) r4 r5 b4 b5 f4 f5 hs hw hh m4 m5 (by simp) (rep_may u1)
    rw [List.length_replicate, m4, ← n1, m5, ← n2] at P2
    refine Evp.ob P2 ?_
    rintro _ ⟨a7, c7, M7, rfl, p7, b7⟩
    simp only [ret_int, ret_bool, ret_flt, ret_slc, ret_str, ret_ptr, ret_agg, ret_tup, ob_some, bb_true, bb_false, List.getElem?_cons_zero, List.getElem?_cons_succ, List.length_cons, List.length_nil, Nat.reduceAdd, Nat.reduceLT]
    refine Evp.neb (fun e => absurd rfl e) fun _ => Evp.neb (fun e => absurd rfl e) fun _ => Evp.neb (fun e => absurd rfl e) fun _ => Evp.neb (fun e => absurd rfl e) fun _ => ?_
    refine Evp.ret (near_loop w h cx cy (some a) B4 (some a7) xs.length ca c4 c7 _ _ M7 w h w h hw (by omega) (by omega) ((b3.pre p6).pre p7) b7 (by rw [outW_len, n1]) (by rw [outW_len, n1]) (by omega) (fun i hi hf => ?_) M.length _ 0 rfl (Nat.zero_le _))
    unfold outW
    rw [getD_map_range (by omega), getD_map_range (by omega)]
    exact tgt_far hs hw.1 (by omega) (by omega) d4 d5 hf
  obtain ⟨x4, rfl, b4⟩ := g4.buf (by omega)
  obtain ⟨x5, rfl, b5⟩ := g5.buf (by omega)
  refine Evp.eqb (fun _ => ?_) fun _ => ?_
  · refine Evp.pos (by omega) ?_
    simp only [Int.toNat_natCast]
    refine Evp.ldI ((b4.pre p5).rdI) (by omega) fun _ _ => ?_
    refine Evp.pos (by omega) (Evp.some rfl ?_)
    obtain ⟨M6, h1, h2, h3, h4, h5⟩ := (b4.pre p5).st (lo := M.length) (i := cy * w + cx) (vs := [.int .u8 (xorI .u8 (xs.getD (cy * w + cx) 0) 128)]) (p4.trans p5) q3.len (by simp; omega)
    refine Evp.some h1 ?_
    rw [setL_one, set_map] at h2
    exact Evp.ret (fin _ _ _ bs M6 h3 h2.rdI ((b5.floor (p4.len)).keep h4 (fun a' ha => by
      injection ha with ha; subst ha
      have := b5.new
      have := (b4 : Buf _ _ _ _)
      obtain ⟨_, _, _, hb2, _⟩ := b4
      have := (List.getElem?_eq_some_iff.1 hb2).1
      omega)).rdI (fun z hz => by
        rcases List.mem_or_eq_of_mem_set hz with hz | rfl
        · exact bx _ hz
        · exact xor_byte _) bb (by simp [n1]) n2 (getD_turn (by omega)) (fun q _ => rfl) (by simpa using l4) l5)
  · refine Evp.pos (by omega) ?_
    simp only [Int.toNat_natCast]
    refine Evp.ldI (b5.rdI) (by omega) fun _ _ => ?_
    refine Evp.pos (by omega) (Evp.some rfl ?_)
    obtain ⟨M6, h1, h2, h3, h4, h5⟩ := b5.st (lo := M.length) (i := cy * w + cx) (vs := [.int .u8 (xorI .u8 (bs.getD (cy * w + cx) 0) 128)]) p5 q4.len (by simp; omega)
    refine Evp.some h1 ?_
    rw [setL_one, set_map] at h2
    exact Evp.ret (fin _ _ xs _ M6 (p4.trans h3) (b4.pre h3).rdI h2.rdI bx (fun z hz => by
        rcases List.mem_or_eq_of_mem_set hz with hz | rfl
        · exact bb _ hz
        · exact xor_byte _) n1 (by simp [n2]) (fun q _ => rfl) (getD_turn (by omega)) l4 (by simpa using l5))
end Go.Zt
