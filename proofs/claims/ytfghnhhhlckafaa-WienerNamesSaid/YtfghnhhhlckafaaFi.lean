/- WienerPlanes. -/
import Derived.Test.YtfghnhhhlckafaaFh
set_option linter.unusedVariables false
set_option linter.unusedSimpArgs false
set_option maxRecDepth 100000
namespace Go.Zt
section
variable (lo : Nat) (A B X Y : Option Addr) (cap capb cX cY : Nat) (xs bs : List Int) (w h w' h' : Int) (M0 M2 : Mem)
variable (hlo : lo ≤ M0.length) (hp : Pre M0 M2) (hx : RdI M0 .u8 A xs) (hb : RdI M0 .u8 B bs) (hX : RdI M2 .u8 X xs) (hY : RdI M2 .u8 Y bs) (hn : xs.length ≤ 140737488351232) (hn' : bs.length ≤ 140737488351232)
include hlo hp hx hb hX hY hn hn'
theorem planes_end (w3 h3 : Int) (Z : Option Addr) (n c i : Nat) (M : Mem) (hpM : Pre M2 M) (hi : n ≤ i) :
    Run P T lo F.zoetropelaw24_WienerPlanes (zoetropelaw24_WienerPlanes.c4084 i w h A xs.length cap w' h' B bs.length capb w h X xs.length cX w' h' Y bs.length cY w3 h3 Z n c M) fun r => ∃ M', r = (.bool true, M') ∧ Pre M0 M' := by
  refine Run.cut (Evp.of_eq (fun k => zoetropelaw24_WienerPlanes.p4084 k ..) ?_)
  refine Evp.dec (fun h => absurd h (by omega)) fun _ => ?_
  refine Evp.ob (eqBytes_ok _ _ _ _ _ xs _ _ (hX.pre hpM) (hx.pre (hp.trans hpM)) hn) ?_
  rintro _ rfl
  simp only [ret_int, ret_bool, ret_flt, ret_slc, ret_str, ret_ptr, ret_agg, ret_tup, ob_some, bb_true, bb_false, List.getElem?_cons_zero, List.getElem?_cons_succ, List.length_cons, List.length_nil, Nat.reduceAdd, Nat.reduceLT]
  refine Evp.tt (by simp) ?_
  refine Evp.ob (eqBytes_ok _ _ _ _ _ bs _ _ (hY.pre hpM) (hb.pre (hp.trans hpM)) hn') ?_
  rintro _ rfl
  simp only [ret_int, ret_bool, ret_flt, ret_slc, ret_str, ret_ptr, ret_agg, ret_tup, ob_some, bb_true, bb_false, List.getElem?_cons_zero, List.getElem?_cons_succ, List.length_cons, List.length_nil, Nat.reduceAdd, Nat.reduceLT]
  refine Evp.tt (by simp) ?_
  refine Evp.ob (awake_ok lo M (Nat.le_trans hlo (hp.trans hpM).len)) ?_
  rintro _ ⟨M3, rfl, p3⟩
  simp only [ret_int, ret_bool, ret_flt, ret_slc, ret_str, ret_ptr, ret_agg, ret_tup, ob_some, bb_true, bb_false, List.getElem?_cons_zero, List.getElem?_cons_succ, List.length_cons, List.length_nil, Nat.reduceAdd, Nat.reduceLT]
  exact Evp.ret (Run.ret ⟨_, rfl, (hp.trans hpM).trans p3⟩)
theorem planes_loop (w3 h3 : Int) (a : Addr) (c : Nat) : ∀ (d i : Nat) (zs : List Int) (M : Mem), zs.length - i = d → i ≤ zs.length → zs.length ≤ 262144 → Pre M2 M → Buf M2 M a (zs.map (Value.int .u8)) →
    Run P T lo F.zoetropelaw24_WienerPlanes (zoetropelaw24_WienerPlanes.c4084 i w h A xs.length cap w' h' B bs.length capb w h X xs.length cX w' h' Y bs.length cY w3 h3 (some a) zs.length c M) fun r => ∃ M', r = (.bool true, M') ∧ Pre M0 M' := by
  intro d
  induction d with
  | zero =>
    intro i zs M hd hi hz hpM hbuf
    exact planes_end lo A B X Y cap capb cX cY xs bs w h w' h' M0 M2 hlo hp hx hb hX hY hn hn' w3 h3 _ _ _ _ M hpM (by omega)
  | succ d ih =>
    intro i zs M hd hi hz hpM hbuf
    refine Run.cut (Evp.of_eq (fun k => zoetropelaw24_WienerPlanes.p4084 k ..) ?_)
    refine Evp.dec (fun _ => ?_) fun h => absurd h (by omega)
    refine Evp.pos (by omega) ?_
    simp only [Int.toNat_natCast]
    refine Evp.ldI hbuf.rdI (by omega) fun _ _ => ?_
    refine Evp.pos (by omega) (Evp.some rfl ?_)
    obtain ⟨M3, h1, h2, h3, h4, h5⟩ := hbuf.st (lo := lo) (i := i) (vs := [.int .u8 (xorI .u8 (zs.getD i 0) 90)]) hpM (Nat.le_trans hlo hp.len) (by simp; omega)
    refine Evp.some h1 ?_
    rw [setL_one, set_map] at h2
    rw [w64 (by omega)]
    have := ih (i + 1) (zs.set i (xorI .u8 (zs.getD i 0) 90)) M3 (by simp; omega) (by simp; omega) (by simpa using hz) h3 h2
    rw [List.length_set] at this
    exact Evp.ret this
end
section
variable (lo : Nat) (AU A B : Option Addr) (cu cap capb : Nat) (us : List Un) (xs bs : List Int) (w h w' h' side : Int) (M0 : Mem)
variable (hlo : lo ≤ M0.length) (hU : RdU M0 AU us) (hwf : ∀ u ∈ us, u.wf) (hul : us.length * 56 ≤ 140737488351232) (hx : RdI M0 .u8 A xs) (hb : RdI M0 .u8 B bs) (bx : Bytes xs) (bb' : Bytes bs) (hn : xs.length ≤ 140737488351232) (hn' : bs.length ≤ 140737488351232)
include hlo hU hwf hul hx hb bx bb' hn hn'
theorem planes_ok : Ac P T lo F.zoetropelaw24_WienerPlanes [.agg ⟨[.int .i64 w, .int .i64 h, .slice A xs.length cap, .int .i64 w', .int .i64 h', .slice B bs.length capb]⟩, .slice AU us.length cu, .int .i64 side] M0 fun r => ∃ M', r = (.bool true, M') ∧ Pre M0 M' := by
  refine Ac.of (Evp.of_eq (fun k => zoetropelaw24_WienerPlanes.entry k ..) ?_)
  refine Evp.ob (copyPlane_ok _ _ _ _ _ _ _ hx (by omega)) ?_
  rintro _ ⟨X, cX, M1, rfl, p1, g1, k1⟩
  simp only [ret_int, ret_bool, ret_flt, ret_slc, ret_str, ret_ptr, ret_agg, ret_tup, ob_some, bb_true, bb_false, List.getElem?_cons_zero, List.getElem?_cons_succ, List.length_cons, List.length_nil, Nat.reduceAdd, Nat.reduceLT]
  refine Evp.ob (copyPlane_ok _ _ _ _ _ _ _ (hb.pre p1) (by omega)) ?_
  rintro _ ⟨Y, cY, M2, rfl, p2, g2, k2⟩
  simp only [ret_int, ret_bool, ret_flt, ret_slc, ret_str, ret_ptr, ret_agg, ret_tup, ob_some, bb_true, bb_false, List.getElem?_cons_zero, List.getElem?_cons_succ, List.length_cons, List.length_nil, Nat.reduceAdd, Nat.reduceLT]
  have q2 := p1.trans p2
  refine Evp.some (Rd.src (hU.pre q2)) ?_
  obtain ⟨⟨sa, sn, sc⟩, M3, e3, g3, hsn, p3, _, _⟩ := (Grow.nil (M0 := M2) (M := M2) (z := 7)).app (lo := lo) (bytes := 56) (c := 0) (m := us.length) (vs := cellsU us) (Pre.refl M2) (Nat.le_trans hlo q2.len) (cellsU_len us) (by omega) (by omega)
  refine Evp.some e3 ?_
  simp only [Nat.zero_add] at hsn
  subst hsn
  have hU3 : RdU M3 sa us := g3.rd
  have q3 := q2.trans p3
  have hX3 := (k1.rdI.pre p2).pre p3
  have hY3 := k2.rdI.pre p3
  refine Evp.ob (plane_ok lo sa X Y sc cX cY us xs bs w h w' h' side M3 (Nat.le_trans hlo q3.len) hU3 hwf (by omega) hX3 hY3 bx bb' g1 g2) ?_
  rintro ⟨v, M4⟩ h4
  by_cases ok : PlaneOk us w h xs.length w' h' bs.length side
  · obtain ⟨a, cc, rfl, p4, hc4, b4⟩ := h4.got ok
    simp only [ret_int, ret_bool, ret_flt, ret_slc, ret_str, ret_ptr, ret_agg, ret_tup, ob_some, bb_true, bb_false, List.getElem?_cons_zero, List.getElem?_cons_succ, List.length_cons, List.length_nil, Nat.reduceAdd, Nat.reduceLT]
    have q4 := q3.trans p4
    refine Evp.ob (rplane_ok lo AU A B cu cap capb us xs bs w h w' h' side M4 (Nat.le_trans hlo q4.len) (hU.pre q4) hwf (hx.pre q4) (hb.pre q4) bx bb') ?_
    rintro ⟨v, M5⟩ h5
    obtain ⟨a', cc', rfl, p5, hc5, b5⟩ := h5.got ok
    simp only [ret_int, ret_bool, ret_flt, ret_slc, ret_str, ret_ptr, ret_agg, ret_tup, ob_some, bb_true, bb_false, List.getElem?_cons_zero, List.getElem?_cons_succ, List.length_cons, List.length_nil, Nat.reduceAdd, Nat.reduceLT]
    refine Evp.neb (fun e => absurd rfl e) fun _ => Evp.neb (fun e => absurd rfl e) fun _ => Evp.neb (fun e => absurd rfl e) fun _ => ?_
    have lo1 : (outW us xs bs w.toNat h.toNat side.toNat).length = xs.length := by
      have := checkS_len' ok.1
      obtain ⟨w, rfl⟩ := Int.eq_ofNat_of_zero_le (a := w) (by omega)
      obtain ⟨h, rfl⟩ := Int.eq_ofNat_of_zero_le (a := h) (by omega)
      rw [outW_len]
      have h2 := this.2.2.2.2
      rw [← Int.natCast_mul, Nat.mul_comm] at h2
      simp only [Int.toNat_natCast]
      omega
    have sm : xs.length ≤ 262144 := by
      have := checkS_len' ok.1
      have := area ⟨this.1, this.2.1, this.2.2.1, this.2.2.2.1⟩
      omega
    generalize outW us xs bs w.toNat h.toNat side.toNat = zs at *
    rw [← lo1]
    refine Evp.ob (eqBytes_ok _ _ _ _ _ zs zs M5 (b4.rdI.pre p5) b5.rdI (by omega)) ?_
    rintro _ rfl
    simp only [ret_int, ret_bool, ret_flt, ret_slc, ret_str, ret_ptr, ret_agg, ret_tup, ob_some, bb_true, bb_false, List.getElem?_cons_zero, List.getElem?_cons_succ, List.length_cons, List.length_nil, Nat.reduceAdd, Nat.reduceLT]
    refine Evp.ff (by simp) ?_
    have := planes_loop lo A B X Y cap capb cX cY xs bs w h w' h' M0 M3 hlo q3 hx hb hX3 hY3 hn hn' w h a cc _ 0 zs M5 rfl (Nat.zero_le _) (by omega) (p4.trans p5) (b4.pre p5)
    rw [lo1] at this ⊢
    exact Evp.ret this
  · obtain ⟨rfl, p4⟩ := h4.not ok
    simp only [ret_int, ret_bool, ret_flt, ret_slc, ret_str, ret_ptr, ret_agg, ret_tup, ob_some, bb_true, bb_false, List.getElem?_cons_zero, List.getElem?_cons_succ, List.length_cons, List.length_nil, Nat.reduceAdd, Nat.reduceLT]
    have q4 := q3.trans p4
    refine Evp.ob (rplane_ok lo AU A B cu cap capb us xs bs w h w' h' side M4 (Nat.le_trans hlo q4.len) (hU.pre q4) hwf (hx.pre q4) (hb.pre q4) bx bb') ?_
    rintro ⟨v, M5⟩ h5
    obtain ⟨rfl, p5⟩ := h5.not ok
    simp only [ret_int, ret_bool, ret_flt, ret_slc, ret_str, ret_ptr, ret_agg, ret_tup, ob_some, bb_true, bb_false, List.getElem?_cons_zero, List.getElem?_cons_succ, List.length_cons, List.length_nil, Nat.reduceAdd, Nat.reduceLT]
    refine Evp.neb (fun e => absurd rfl e) fun _ => Evp.neb (fun e => absurd rfl e) fun _ => Evp.neb (fun e => absurd rfl e) fun _ => ?_
    refine Evp.ob (eqBytes_ok _ none none 0 0 [] [] M5 RdI.nil RdI.nil (by decide)) ?_
    rintro _ rfl
    simp only [ret_int, ret_bool, ret_flt, ret_slc, ret_str, ret_ptr, ret_agg, ret_tup, ob_some, bb_true, bb_false, List.getElem?_cons_zero, List.getElem?_cons_succ, List.length_cons, List.length_nil, Nat.reduceAdd, Nat.reduceLT]
    refine Evp.ff (by simp) ?_
    exact Evp.ret (planes_end lo A B X Y cap capb cX cY xs bs w h w' h' M0 M3 hlo q3 hx hb hX3 hY3 hn hn' 0 0 none 0 0 0 M5 (p4.trans p5) (Nat.le_refl _))
end
/-- Lists of units among the arguments. -/
theorem units_of {M : Mem} {n d : Nat} {cs : List Value} (hl : cs.length = n * 7) (h : ∀ i, i < n → Lays P M (d + 3) 25 ((cs.drop (i * 7)).take 7)) : ∃ us : List Un, us.length = n ∧ cs = cellsU us ∧ ∀ u ∈ us, u.wf := by
  induction n generalizing cs with
  | zero =>
    rw [Nat.zero_mul] at hl
    exact ⟨[], rfl, List.eq_nil_of_length_eq_zero hl, fun u hu => absurd hu (by simp)⟩
  | succ n ih =>
    obtain ⟨b, a1, a2, a3, a4, a5, a6, e, w1, w2, w3, w4, w5, w6⟩ := Y25 (d := d) (h 0 (by omega))
    rw [Nat.zero_mul, List.drop_zero] at e
    obtain ⟨us, h1, h2, h3⟩ := ih (cs := cs.drop 7) (by rw [List.length_drop, hl]; omega) fun i hi => by
      have := h (i + 1) (by omega)
      rwa [List.drop_drop, show 7 + i * 7 = (i + 1) * 7 by omega]
    refine ⟨⟨b, ⟨a1, a2, a3⟩, ⟨a4, a5, a6⟩⟩ :: us, by simp [h1], ?_, ?_⟩
    · have : cs = cs.take 7 ++ cs.drop 7 := (List.take_append_drop 7 cs).symm
      rw [this, e, h2]
      rfl
    · intro u hu
      rcases List.mem_cons.1 hu with rfl | hu
      · exact ⟨w1, w2, w3, w4, w5, w6⟩
      · exact h3 u hu
theorem WienerPlanes_law (M : Mem) (vs : List Value) (hro : AllRo M) (hv : LaysArgs P M [37, 38, 3] vs) : Ac P T M.length F.zoetropelaw24_WienerPlanes vs M fun r => r.1 = .bool true := by
  obtain ⟨w, h, A, cap, xs, w', h', B, capb, bs, AU, n, cu, cs, side, rfl, _, _, hc, hn, hx, wx, _, _, hc', hn', hb, wb, hnc, hn56, hU, hLay, _⟩ := Arg.WienerPlanes hv
  obtain ⟨us, rfl, rfl, hwf⟩ := units_of hU.1 hLay
  refine Ac.mono (planes_ok M.length AU A B cu cap capb us xs bs w h w' h' side M (Nat.le_refl _) hU hwf hn56 hx hb (fun x hx => wf_u8 (wx x hx)) (fun x hx => wf_u8 (wb x hx)) (by omega) (by omega)) ?_
  rintro _ ⟨M', rfl, _⟩
  rfl
end Go.Zt
