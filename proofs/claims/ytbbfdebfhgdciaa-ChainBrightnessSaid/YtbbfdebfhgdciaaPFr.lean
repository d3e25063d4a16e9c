/- What the law ChainBrightness needs of the text Fr. -/
import Derived.Test.YtbbfdebfhgdciaaPFq
set_option linter.unusedVariables false
set_option linter.unusedSimpArgs false
set_option maxRecDepth 100000
set_option maxHeartbeats 4000000
namespace Go.Zt
theorem mono_of {l : Nat → Nat} (h : ∀ i, l i ≤ l (i + 1)) : ∀ i j, i ≤ j → l i ≤ l j := fun i j hij => by
  induction j with
  | zero => rw [show i = 0 by omega]; exact Nat.le_refl _
  | succ j ih =>
    by_cases e : i = j + 1
    · rw [e]; exact Nat.le_refl _
    · exact Nat.le_trans (ih (by omega)) (h j)
theorem copiedB_ok (lo : Nat) (s : SideV) (M : Mem) (hs : SideOk M s) (hf : SideFit s) (hlo : lo ≤ M.length) :
    Ac P T lo F.zoetropelaw25_copied [.agg ⟨s.cells⟩] M fun r => ∃ (s' : SideV) (M' : Mem) (l : Nat → Nat), r = (.agg ⟨s'.cells⟩, M') ∧ Pre M M' ∧ SideOk M' s' ∧ SideEq s s' ∧ l 0 = M.length ∧ l 14 = M'.length ∧ (∀ i j, i ≤ j → l i ≤ l j) ∧ (∀ i, i < 14 → InAt s' (l i) (l (i + 1)) i) ∧
      OwnB M M' s'.m1.AQ s'.m1.qs.length (s'.m1.qs.map Value.bool) ∧ OwnB M M' s'.m2.AQ s'.m2.qs.length (s'.m2.qs.map Value.bool) ∧ OwnB M M' s'.u1.A s'.u1.us.length (cellsU s'.u1.us) ∧ OwnB M M' s'.u2.A s'.u2.us.length (cellsU s'.u2.us) := by
  refine Ac.of (Evp.of_eq (fun k => zoetropelaw25_copied.entry k ..) ?_)
  refine Evp.ret ?_
  have q0 := Pre.refl M
  refine Run.cut (Evp.of_eq (fun k => zoetropelaw25_copied.p116 k ..) ?_)
  refine Evp.tt rfl (Evp.pos (by decide) (Evp.some rfl (Evp.some rfl (Evp.some rfl (Evp.some rfl (Evp.some rfl ?_))))))
  have o0 := hs.m 0
  refine Evp.ob (copyBytes_ok _ (s.map 0).AT (s.map 0).ct (s.map 0).tx M (o0.rt.pre q0) o0.nt (Nat.le_refl _)) ?_
  rintro _ ⟨AT0, ct0, M0a, rfl, p0a, _, gt0⟩
  simp only [ret_int, ret_bool, ret_flt, ret_slc, ret_str, ret_ptr, ret_agg, ret_tup, ob_some, bb_true, bb_false, List.getElem?_cons_zero, List.getElem?_cons_succ, List.length_cons, List.length_nil, Nat.reduceAdd, Nat.reduceLT]
  refine Evp.ob (copyInts_ok _ (s.map 0).AI (s.map 0).ci (s.map 0).ids M0a (o0.ri.pre (q0.trans p0a)) (hf.ids 0) p0a.len) ?_
  rintro _ ⟨AI0, ci0, M0b, rfl, p0b, _, gi0⟩
  simp only [ret_int, ret_bool, ret_flt, ret_slc, ret_str, ret_ptr, ret_agg, ret_tup, ob_some, bb_true, bb_false, List.getElem?_cons_zero, List.getElem?_cons_succ, List.length_cons, List.length_nil, Nat.reduceAdd, Nat.reduceLT]
  refine Evp.ob (bools_ok _ (s.map 0).AQ (s.map 0).cq (s.map 0).qs M0b (o0.rq.pre ((q0.trans p0a).trans p0b)) (hf.mqs 0) (p0a.trans p0b).len) ?_
  rintro _ ⟨AQ0, cq0, M0c, rfl, p0c, _, gq0⟩
  simp only [ret_int, ret_bool, ret_flt, ret_slc, ret_str, ret_ptr, ret_agg, ret_tup, ob_some, bb_true, bb_false, List.getElem?_cons_zero, List.getElem?_cons_succ, List.length_cons, List.length_nil, Nat.reduceAdd, Nat.reduceLT]
  have q0c := ((q0.trans p0a).trans p0b).trans p0c
  refine Evp.pos (by decide) (Evp.pos (Nat.le_of_ble_eq_true rfl) (Evp.pos (by decide) (Evp.some rfl ?_)))
  have u0 := hs.u 0
  refine Evp.ob (units_ok lo (s.un 0).A (s.un 0).c (s.un 0).us M0c (u0.rd.pre q0c) (hf.us 0) (by have := q0c.len; omega)) ?_
  rintro _ ⟨AU0, cu0, M1, rfl, p0d, _, gu0⟩
  simp only [ret_int, ret_bool, ret_flt, ret_slc, ret_str, ret_ptr, ret_agg, ret_tup, ob_some, bb_true, bb_false, List.getElem?_cons_zero, List.getElem?_cons_succ, List.length_cons, List.length_nil, Nat.reduceAdd, Nat.reduceLT]
  have q1 : Pre M M1 := q0c.trans p0d
  refine Evp.pos (by decide) (Evp.pos (Nat.le_of_ble_eq_true rfl) (Evp.ret ?_))
  rw [show IntKind.i64.wrap (0 + 1) = 1 from by decide]
  simp only [setL, Int.reduceToNat, Nat.reduceMul, Nat.reduceAdd, Nat.zero_mul, Nat.add_zero, Nat.zero_add, List.set_cons_zero, List.set_cons_succ]
  refine Run.cut (Evp.of_eq (fun k => zoetropelaw25_copied.p116 k ..) ?_)
  refine Evp.tt rfl (Evp.pos (by decide) (Evp.some rfl (Evp.some rfl (Evp.some rfl (Evp.some rfl (Evp.some rfl ?_))))))
  have o1 := hs.m 1
  refine Evp.ob (copyBytes_ok _ (s.map 1).AT (s.map 1).ct (s.map 1).tx M1 (o1.rt.pre q1) o1.nt (Nat.le_refl _)) ?_
  rintro _ ⟨AT1, ct1, M1a, rfl, p1a, _, gt1⟩
  simp only [ret_int, ret_bool, ret_flt, ret_slc, ret_str, ret_ptr, ret_agg, ret_tup, ob_some, bb_true, bb_false, List.getElem?_cons_zero, List.getElem?_cons_succ, List.length_cons, List.length_nil, Nat.reduceAdd, Nat.reduceLT]
  refine Evp.ob (copyInts_ok _ (s.map 1).AI (s.map 1).ci (s.map 1).ids M1a (o1.ri.pre (q1.trans p1a)) (hf.ids 1) p1a.len) ?_
  rintro _ ⟨AI1, ci1, M1b, rfl, p1b, _, gi1⟩
  simp only [ret_int, ret_bool, ret_flt, ret_slc, ret_str, ret_ptr, ret_agg, ret_tup, ob_some, bb_true, bb_false, List.getElem?_cons_zero, List.getElem?_cons_succ, List.length_cons, List.length_nil, Nat.reduceAdd, Nat.reduceLT]
  refine Evp.ob (bools_ok _ (s.map 1).AQ (s.map 1).cq (s.map 1).qs M1b (o1.rq.pre ((q1.trans p1a).trans p1b)) (hf.mqs 1) (p1a.trans p1b).len) ?_
  rintro _ ⟨AQ1, cq1, M1c, rfl, p1c, _, gq1⟩
  simp only [ret_int, ret_bool, ret_flt, ret_slc, ret_str, ret_ptr, ret_agg, ret_tup, ob_some, bb_true, bb_false, List.getElem?_cons_zero, List.getElem?_cons_succ, List.length_cons, List.length_nil, Nat.reduceAdd, Nat.reduceLT]
  have q1c := ((q1.trans p1a).trans p1b).trans p1c
  refine Evp.pos (by decide) (Evp.pos (Nat.le_of_ble_eq_true rfl) (Evp.pos (by decide) (Evp.some rfl ?_)))
  have u1 := hs.u 1
  refine Evp.ob (units_ok lo (s.un 1).A (s.un 1).c (s.un 1).us M1c (u1.rd.pre q1c) (hf.us 1) (by have := q1c.len; omega)) ?_
  rintro _ ⟨AU1, cu1, M2, rfl, p1d, _, gu1⟩
  simp only [ret_int, ret_bool, ret_flt, ret_slc, ret_str, ret_ptr, ret_agg, ret_tup, ob_some, bb_true, bb_false, List.getElem?_cons_zero, List.getElem?_cons_succ, List.length_cons, List.length_nil, Nat.reduceAdd, Nat.reduceLT]
  have q2 : Pre M M2 := q1c.trans p1d
  refine Evp.pos (by decide) (Evp.pos (Nat.le_of_ble_eq_true rfl) (Evp.ret ?_))
  rw [show IntKind.i64.wrap (1 + 1) = 2 from by decide]
  simp only [setL, Int.reduceToNat, Nat.reduceMul, Nat.reduceAdd, Nat.zero_mul, Nat.add_zero, Nat.zero_add, List.set_cons_zero, List.set_cons_succ]
  refine Run.cut (Evp.of_eq (fun k => zoetropelaw25_copied.p116 k ..) ?_)
  refine Evp.tt rfl (Evp.pos (by decide) (Evp.some rfl (Evp.some rfl (Evp.some rfl (Evp.some rfl (Evp.some rfl ?_))))))
  have o2 := hs.m 2
  refine Evp.ob (copyBytes_ok _ (s.map 2).AT (s.map 2).ct (s.map 2).tx M2 (o2.rt.pre q2) o2.nt (Nat.le_refl _)) ?_
  rintro _ ⟨AT2, ct2, M2a, rfl, p2a, _, gt2⟩
  simp only [ret_int, ret_bool, ret_flt, ret_slc, ret_str, ret_ptr, ret_agg, ret_tup, ob_some, bb_true, bb_false, List.getElem?_cons_zero, List.getElem?_cons_succ, List.length_cons, List.length_nil, Nat.reduceAdd, Nat.reduceLT]
  refine Evp.ob (copyInts_ok _ (s.map 2).AI (s.map 2).ci (s.map 2).ids M2a (o2.ri.pre (q2.trans p2a)) (hf.ids 2) p2a.len) ?_
  rintro _ ⟨AI2, ci2, M2b, rfl, p2b, _, gi2⟩
  simp only [ret_int, ret_bool, ret_flt, ret_slc, ret_str, ret_ptr, ret_agg, ret_tup, ob_some, bb_true, bb_false, List.getElem?_cons_zero, List.getElem?_cons_succ, List.length_cons, List.length_nil, Nat.reduceAdd, Nat.reduceLT]
  refine Evp.ob (bools_ok _ (s.map 2).AQ (s.map 2).cq (s.map 2).qs M2b (o2.rq.pre ((q2.trans p2a).trans p2b)) (hf.mqs 2) (p2a.trans p2b).len) ?_
  rintro _ ⟨AQ2, cq2, M2c, rfl, p2c, _, gq2⟩
  simp only [ret_int, ret_bool, ret_flt, ret_slc, ret_str, ret_ptr, ret_agg, ret_tup, ob_some, bb_true, bb_false, List.getElem?_cons_zero, List.getElem?_cons_succ, List.length_cons, List.length_nil, Nat.reduceAdd, Nat.reduceLT]
  have q2c := ((q2.trans p2a).trans p2b).trans p2c
  refine Evp.pos (by decide) (Evp.pos (Nat.le_of_ble_eq_true rfl) (Evp.pos (by decide) (Evp.some rfl ?_)))
  have u2 := hs.u 2
  refine Evp.ob (units_ok lo (s.un 2).A (s.un 2).c (s.un 2).us M2c (u2.rd.pre q2c) (hf.us 2) (by have := q2c.len; omega)) ?_
  rintro _ ⟨AU2, cu2, M3, rfl, p2d, _, gu2⟩
  simp only [ret_int, ret_bool, ret_flt, ret_slc, ret_str, ret_ptr, ret_agg, ret_tup, ob_some, bb_true, bb_false, List.getElem?_cons_zero, List.getElem?_cons_succ, List.length_cons, List.length_nil, Nat.reduceAdd, Nat.reduceLT]
  have q3 : Pre M M3 := q2c.trans p2d
  refine Evp.pos (by decide) (Evp.pos (Nat.le_of_ble_eq_true rfl) (Evp.ret ?_))
  rw [show IntKind.i64.wrap (2 + 1) = 3 from by decide]
  simp only [setL, Int.reduceToNat, Nat.reduceMul, Nat.reduceAdd, Nat.zero_mul, Nat.add_zero, Nat.zero_add, List.set_cons_zero, List.set_cons_succ]
  refine Run.cut (Evp.of_eq (fun k => zoetropelaw25_copied.p116 k ..) ?_)
  refine Evp.ff rfl ?_
  refine Evp.ob (bools_ok lo s.Q s.qc s.qs M3 (hs.q.pre q3) hf.qs (by have := q3.len; omega)) ?_
  rintro _ ⟨Q, qc, M4, rfl, p4, _, gq⟩
  simp only [ret_int, ret_bool, ret_flt, ret_slc, ret_str, ret_ptr, ret_agg, ret_tup, ob_some, bb_true, bb_false, List.getElem?_cons_zero, List.getElem?_cons_succ, List.length_cons, List.length_nil, Nat.reduceAdd, Nat.reduceLT]
  refine Evp.pos (Nat.le_of_ble_eq_true rfl) ?_
  refine Evp.ob (copyInts_ok lo s.V s.vc s.ws M4 (hs.v.pre (q3.trans p4)) hf.ws (by have := (q3.trans p4).len; omega)) ?_
  rintro _ ⟨V, vc, M5, rfl, p5, _, gv⟩
  simp only [ret_int, ret_bool, ret_flt, ret_slc, ret_str, ret_ptr, ret_agg, ret_tup, ob_some, bb_true, bb_false, List.getElem?_cons_zero, List.getElem?_cons_succ, List.length_cons, List.length_nil, Nat.reduceAdd, Nat.reduceLT]
  refine Evp.pos (Nat.le_of_ble_eq_true rfl) ?_
  simp only [setL, Nat.reduceAdd, List.set_cons_zero, List.set_cons_succ]
  refine Evp.some rfl (Evp.some rfl (Evp.some rfl (Evp.some rfl (Evp.some rfl (Evp.some rfl (Evp.some rfl (Evp.some rfl (Evp.some rfl (Evp.some rfl ?_)))))))))
  refine Evp.some rfl (Evp.some rfl (Evp.some rfl (Evp.some rfl (Evp.some rfl (Evp.some rfl (Evp.some rfl (Evp.some rfl (Evp.some rfl (Evp.some rfl ?_)))))))))
  have r5 := p4.trans p5
  have r2 := ((((p2a.trans p2b).trans p2c).trans p2d)).trans r5
  have r1 := ((((p1a.trans p1b).trans p1c).trans p1d)).trans r2
  obtain ⟨l, hl⟩ : ∃ l : Nat → Nat, l = fun k => match k with | 0 => M.length | 1 => M0a.length | 2 => M0b.length | 3 => M0c.length | 4 => M1.length | 5 => M1a.length | 6 => M1b.length | 7 => M1c.length | 8 => M2.length | 9 => M2a.length | 10 => M2b.length | 11 => M2c.length | 12 => M3.length | 13 => M4.length | _ => M5.length := ⟨_, rfl⟩
  refine Evp.ret (Run.ret ⟨⟨⟨s.m0.w, s.m0.h, AT0, s.m0.tx, ct0, AI0, s.m0.ids, ci0, AQ0, s.m0.qs, cq0⟩, ⟨s.m1.w, s.m1.h, AT1, s.m1.tx, ct1, AI1, s.m1.ids, ci1, AQ1, s.m1.qs, cq1⟩, ⟨s.m2.w, s.m2.h, AT2, s.m2.tx, ct2, AI2, s.m2.ids, ci2, AQ2, s.m2.qs, cq2⟩, Q, s.qs, qc, V, s.ws, vc, ⟨AU0, s.u0.us, cu0⟩, ⟨AU1, s.u1.us, cu1⟩, ⟨AU2, s.u2.us, cu2⟩⟩, M5, l, rfl, q3.trans r5, ⟨fun n => ?_, gq.rd.pre p5, gv.rdI, hs.nv, fun n => ?_⟩, ⟨fun n => ?_, rfl, rfl, fun n => ?_⟩, by rw [hl]; rfl, by rw [hl]; rfl, mono_of fun i => ?_, fun i hi => ?_, ?_, ?_, ?_, ?_⟩)
  · match n with
    | 0 => exact ⟨gt0.rdI.pre (((p0b.trans p0c).trans p0d).trans r1), gi0.rdI.pre ((p0c.trans p0d).trans r1), gq0.rd.pre (p0d.trans r1), o0.nt⟩
    | 1 => exact ⟨gt1.rdI.pre (((p1b.trans p1c).trans p1d).trans r2), gi1.rdI.pre ((p1c.trans p1d).trans r2), gq1.rd.pre (p1d.trans r2), o1.nt⟩
    | n + 2 => exact ⟨gt2.rdI.pre (((p2b.trans p2c).trans p2d).trans r5), gi2.rdI.pre ((p2c.trans p2d).trans r5), gq2.rd.pre (p2d.trans r5), o2.nt⟩
  · match n with
    | 0 => exact ⟨gu0.rd.pre r1, u0.wf, u0.n⟩
    | 1 => exact ⟨gu1.rd.pre r2, u1.wf, u1.n⟩
    | n + 2 => exact ⟨gu2.rd.pre r5, u2.wf, u2.n⟩
  · match n with
    | 0 => exact ⟨rfl, rfl, rfl, rfl, rfl⟩
    | 1 => exact ⟨rfl, rfl, rfl, rfl, rfl⟩
    | n + 2 => exact ⟨rfl, rfl, rfl, rfl, rfl⟩
  · match n with
    | 0 => exact rfl
    | 1 => exact rfl
    | n + 2 => exact rfl
  · rw [hl]
    match i with
    | 0 => exact p0a.len
    | 1 => exact p0b.len
    | 2 => exact p0c.len
    | 3 => exact p0d.len
    | 4 => exact p1a.len
    | 5 => exact p1b.len
    | 6 => exact p1c.len
    | 7 => exact p1d.len
    | 8 => exact p2a.len
    | 9 => exact p2b.len
    | 10 => exact p2c.len
    | 11 => exact p2d.len
    | 12 => exact p4.len
    | 13 => exact p5.len
    | i + 14 => exact Nat.le_refl _
  · rw [hl]
    match i, hi with
    | 0, _ => exact gt0.in_
    | 1, _ => exact gi0.in_
    | 2, _ => exact gq0.in_
    | 3, _ => exact gu0.in_
    | 4, _ => exact gt1.in_
    | 5, _ => exact gi1.in_
    | 6, _ => exact gq1.in_
    | 7, _ => exact gu1.in_
    | 8, _ => exact gt2.in_
    | 9, _ => exact gi2.in_
    | 10, _ => exact gq2.in_
    | 11, _ => exact gu2.in_
    | 12, _ => exact gq.in_
    | 13, _ => exact gv.in_
    | i + 14, h => omega
  · exact (gq1.ownB.floor ((q1.trans p1a).trans p1b).len).pre (p1d.trans r2)
  · exact (gq2.ownB.floor ((q2.trans p2a).trans p2b).len).pre (p2d.trans r5)
  · exact (gu1.ownB.floor q1c.len).pre r2
  · exact (gu2.ownB.floor q2c.len).pre r5
theorem cellsU_len (us : List Un) : (cellsU us).length = us.length * 7 := by
  unfold cellsU
  induction us with
  | nil => rfl
  | cons u r ih => rw [List.flatMap_cons, List.length_append, ih]; simp [Un.cells]; omega
theorem cellsU_app (us vs : List Un) : cellsU (us ++ vs) = cellsU us ++ cellsU vs := by unfold cellsU; rw [List.flatMap_append]
theorem cellsU_set {us : List Un} {k : Nat} {u : Un} (hk : k < us.length) : setL (cellsU us) (k * 7) u.cells = cellsU (us.set k u) := by
  have e1 : us = us.take k ++ us[k] :: us.drop (k + 1) := by rw [List.getElem_cons_drop, List.take_append_drop]
  have e2 : us.set k u = us.take k ++ u :: us.drop (k + 1) := List.set_eq_take_append_cons_drop .. |>.trans (by rw [if_pos hk])
  have e3 : cellsU us = cellsU (us.take k) ++ us[k].cells ++ cellsU (us.drop (k + 1)) := by
    conv => lhs; rw [e1]
    rw [cellsU_app]
    show cellsU (us.take k) ++ (us[k].cells ++ cellsU (us.drop (k + 1))) = _
    rw [List.append_assoc]
  have e4 : cellsU (us.set k u) = cellsU (us.take k) ++ u.cells ++ cellsU (us.drop (k + 1)) := by
    rw [e2, cellsU_app]
    show cellsU (us.take k) ++ (u.cells ++ cellsU (us.drop (k + 1))) = _
    rw [List.append_assoc]
  have := setL_all (cellsU (us.take k)) us[k].cells u.cells (cellsU (us.drop (k + 1))) rfl
  rw [cellsU_len, List.length_take, Nat.min_eq_left (by omega)] at this
  rw [e3, this, e4]
section
variable (lo : Nat) (f O X : Fr3) (hd : Hd) (s : SideV) (A1 : Option Addr) (c3 : Nat) (ms : List Int)
theorem br_pix1 (M0 Mi : Mem) (a : Addr) (c : Nat) (w h : Int) (hlo : lo ≤ Mi.length) (hm : RdI Mi .u8 A1 ms) (hmn : ms.length ≤ 140737488351232) (N : Nat) (hN : N ≤ 262144) {Q : Value × Mem → Prop}
    (hnext : ∀ (M' : Mem) (zs : List Int), Pre Mi M' → Buf Mi M' a (zs.map (Value.int .u8)) → Bytes zs → zs.length = N → Run P T lo F.zoetropelaw25_ChainBrightness (zoetropelaw25_ChainBrightness.c2085492 A1 ms.length c3 (1 : Int) 0 f.p0.w f.p0.h f.p0.A f.p0.xs.length f.p0.c f.p1.w f.p1.h f.p1.A f.p1.xs.length f.p1.c f.p2.w f.p2.h f.p2.A f.p2.xs.length f.p2.c hd.h0 hd.h1 hd.h2 hd.h3 hd.h4 hd.h5 hd.h6 hd.h7 hd.h8 hd.h9 hd.h10 hd.h11 hd.h12 hd.h13 hd.h14 hd.h15 hd.h16 hd.h17 hd.h18 hd.h19 hd.h20 hd.h21 hd.h22 hd.cdef hd.damp hd.h25 hd.A hd.n hd.c hd.h27 hd.h28 hd.h29 s.m0.w s.m0.h s.m0.AT s.m0.tx.length s.m0.ct s.m0.AI s.m0.ids.length s.m0.ci s.m0.AQ s.m0.qs.length s.m0.cq s.m1.w s.m1.h s.m1.AT s.m1.tx.length s.m1.ct s.m1.AI s.m1.ids.length s.m1.ci s.m1.AQ s.m1.qs.length s.m1.cq s.m2.w s.m2.h s.m2.AT s.m2.tx.length s.m2.ct s.m2.AI s.m2.ids.length s.m2.ci s.m2.AQ s.m2.qs.length s.m2.cq s.Q s.qs.length s.qc s.V s.ws.length s.vc s.u0.A s.u0.us.length s.u0.c s.u1.A s.u1.us.length s.u1.c s.u2.A s.u2.us.length s.u2.c O.p0.w O.p0.h O.p0.A O.p0.xs.length O.p0.c O.p1.w O.p1.h O.p1.A O.p1.xs.length O.p1.c O.p2.w O.p2.h O.p2.A O.p2.xs.length O.p2.c (setL X.cells (0 + ((1 : Int).toNat * 3)) [.int .i64 w, .int .i64 h, .slice (some a) N c]) M') Q) :
    ∀ (d i : Nat) (M : Mem) (zs : List Int), N - i = d → i ≤ N → Pre Mi M → Buf Mi M a (zs.map (Value.int .u8)) → Bytes zs → zs.length = N →
      Run P T lo F.zoetropelaw25_ChainBrightness (zoetropelaw25_ChainBrightness.c521364 A1 ms.length c3 (1 : Int) (i : Int) f.p0.w f.p0.h f.p0.A f.p0.xs.length f.p0.c f.p1.w f.p1.h f.p1.A f.p1.xs.length f.p1.c f.p2.w f.p2.h f.p2.A f.p2.xs.length f.p2.c hd.h0 hd.h1 hd.h2 hd.h3 hd.h4 hd.h5 hd.h6 hd.h7 hd.h8 hd.h9 hd.h10 hd.h11 hd.h12 hd.h13 hd.h14 hd.h15 hd.h16 hd.h17 hd.h18 hd.h19 hd.h20 hd.h21 hd.h22 hd.cdef hd.damp hd.h25 hd.A hd.n hd.c hd.h27 hd.h28 hd.h29 s.m0.w s.m0.h s.m0.AT s.m0.tx.length s.m0.ct s.m0.AI s.m0.ids.length s.m0.ci s.m0.AQ s.m0.qs.length s.m0.cq s.m1.w s.m1.h s.m1.AT s.m1.tx.length s.m1.ct s.m1.AI s.m1.ids.length s.m1.ci s.m1.AQ s.m1.qs.length s.m1.cq s.m2.w s.m2.h s.m2.AT s.m2.tx.length s.m2.ct s.m2.AI s.m2.ids.length s.m2.ci s.m2.AQ s.m2.qs.length s.m2.cq s.Q s.qs.length s.qc s.V s.ws.length s.vc s.u0.A s.u0.us.length s.u0.c s.u1.A s.u1.us.length s.u1.c s.u2.A s.u2.us.length s.u2.c O.p0.w O.p0.h O.p0.A O.p0.xs.length O.p0.c O.p1.w O.p1.h O.p1.A O.p1.xs.length O.p1.c O.p2.w O.p2.h O.p2.A O.p2.xs.length O.p2.c X.cells w h (some a) N c M) Q := by
  intro d
  induction d with
  | zero =>
    intro i M zs hd hi hp hb bz hz
    refine Run.cut (Evp.of_eq (fun k => zoetropelaw25_ChainBrightness.p521364 k ..) ?_)
    refine Evp.dec (fun h => absurd h (by omega)) fun _ => ?_
    exact Evp.pos (by decide) (Evp.pos (Nat.le_of_ble_eq_true rfl) (Evp.ret (hnext M zs hp hb bz hz)))
  | succ d ih =>
    intro i M zs hd hi hp hb bz hz
    refine Run.cut (Evp.of_eq (fun k => zoetropelaw25_ChainBrightness.p521364 k ..) ?_)
    refine Evp.dec (fun _ => ?_) fun h => absurd h (by omega)
    refine Evp.dec (fun hpos => ?_) fun _ => Evp.pos (by decide) (Evp.pos (Nat.le_of_ble_eq_true rfl) (Evp.ret (hnext M zs hp hb bz hz)))
    refine Evp.pos (by omega) ?_
    simp only [Int.toNat_natCast]
    refine Evp.ldI hb.rdI (by omega) fun _ _ => ?_
    have et : Int.tmod (i : Int) (ms.length : Int) = ((i % ms.length : Nat) : Int) := rfl
    have hlt : i % ms.length < ms.length := Nat.mod_lt _ (by omega)
    rw [et]
    refine Evp.neg (by omega) (Evp.pos (by omega) ?_)
    simp only [Int.toNat_natCast]
    refine Evp.ldI (hm.pre hp) hlt fun _ _ => ?_
    refine Evp.pos (by omega) (Evp.some rfl ?_)
    obtain ⟨M1, g1, g2, g3, g4, g5⟩ := hb.st (lo := lo) (i := i) (vs := [.int .u8 (IntKind.u8.wrap (zs.getD i 0 + ms.getD (i % ms.length) 0))]) hp hlo (by simp; omega)
    refine Evp.some g1 ?_
    rw [setL_one, set_map] at g2
    rw [w64 (x := (i : Int) + 1) (by omega)]
    exact Evp.ret (ih (i + 1) M1 _ (by omega) (by omega) g3 g2 (set_bytes bz i (by rw [IntKind.wrap_u8]; omega)) (by simpa using hz))
theorem br_quiet1 (M0 Mi : Mem) (hlo : lo ≤ M0.length) (a : Addr) (hA : s.m1.AQ = some a) (X' : List Value) {Q : Value × Mem → Prop}
    (hnext : ∀ (M' : Mem) (ys : List Bool), KeepB a.block Mi M' → Pre M0 M' → Mi.length ≤ M'.length → Buf M0 M' a (ys.map Value.bool) → ys.length = s.m1.qs.length → Run P T lo F.zoetropelaw25_ChainBrightness (zoetropelaw25_ChainBrightness.c2085500 A1 ms.length c3 (1 : Int) 0 f.p0.w f.p0.h f.p0.A f.p0.xs.length f.p0.c f.p1.w f.p1.h f.p1.A f.p1.xs.length f.p1.c f.p2.w f.p2.h f.p2.A f.p2.xs.length f.p2.c hd.h0 hd.h1 hd.h2 hd.h3 hd.h4 hd.h5 hd.h6 hd.h7 hd.h8 hd.h9 hd.h10 hd.h11 hd.h12 hd.h13 hd.h14 hd.h15 hd.h16 hd.h17 hd.h18 hd.h19 hd.h20 hd.h21 hd.h22 hd.cdef hd.damp hd.h25 hd.A hd.n hd.c hd.h27 hd.h28 hd.h29 s.m0.w s.m0.h s.m0.AT s.m0.tx.length s.m0.ct s.m0.AI s.m0.ids.length s.m0.ci s.m0.AQ s.m0.qs.length s.m0.cq s.m1.w s.m1.h s.m1.AT s.m1.tx.length s.m1.ct s.m1.AI s.m1.ids.length s.m1.ci s.m1.AQ s.m1.qs.length s.m1.cq s.m2.w s.m2.h s.m2.AT s.m2.tx.length s.m2.ct s.m2.AI s.m2.ids.length s.m2.ci s.m2.AQ s.m2.qs.length s.m2.cq s.Q s.qs.length s.qc s.V s.ws.length s.vc s.u0.A s.u0.us.length s.u0.c s.u1.A s.u1.us.length s.u1.c s.u2.A s.u2.us.length s.u2.c O.p0.w O.p0.h O.p0.A O.p0.xs.length O.p0.c O.p1.w O.p1.h O.p1.A O.p1.xs.length O.p1.c O.p2.w O.p2.h O.p2.A O.p2.xs.length O.p2.c X' M') Q) :
    ∀ (d i : Nat) (M : Mem) (ys : List Bool), s.m1.qs.length - i = d → i ≤ s.m1.qs.length → s.m1.qs.length ≤ 140737488351232 → KeepB a.block Mi M → Pre M0 M → Mi.length ≤ M.length → Buf M0 M a (ys.map Value.bool) → ys.length = s.m1.qs.length →
      Run P T lo F.zoetropelaw25_ChainBrightness (zoetropelaw25_ChainBrightness.c2085492 A1 ms.length c3 (1 : Int) (i : Int) f.p0.w f.p0.h f.p0.A f.p0.xs.length f.p0.c f.p1.w f.p1.h f.p1.A f.p1.xs.length f.p1.c f.p2.w f.p2.h f.p2.A f.p2.xs.length f.p2.c hd.h0 hd.h1 hd.h2 hd.h3 hd.h4 hd.h5 hd.h6 hd.h7 hd.h8 hd.h9 hd.h10 hd.h11 hd.h12 hd.h13 hd.h14 hd.h15 hd.h16 hd.h17 hd.h18 hd.h19 hd.h20 hd.h21 hd.h22 hd.cdef hd.damp hd.h25 hd.A hd.n hd.c hd.h27 hd.h28 hd.h29 s.m0.w s.m0.h s.m0.AT s.m0.tx.length s.m0.ct s.m0.AI s.m0.ids.length s.m0.ci s.m0.AQ s.m0.qs.length s.m0.cq s.m1.w s.m1.h s.m1.AT s.m1.tx.length s.m1.ct s.m1.AI s.m1.ids.length s.m1.ci s.m1.AQ s.m1.qs.length s.m1.cq s.m2.w s.m2.h s.m2.AT s.m2.tx.length s.m2.ct s.m2.AI s.m2.ids.length s.m2.ci s.m2.AQ s.m2.qs.length s.m2.cq s.Q s.qs.length s.qc s.V s.ws.length s.vc s.u0.A s.u0.us.length s.u0.c s.u1.A s.u1.us.length s.u1.c s.u2.A s.u2.us.length s.u2.c O.p0.w O.p0.h O.p0.A O.p0.xs.length O.p0.c O.p1.w O.p1.h O.p1.A O.p1.xs.length O.p1.c O.p2.w O.p2.h O.p2.A O.p2.xs.length O.p2.c X' M) Q := by
  intro d
  induction d with
  | zero =>
    intro i M ys hd hi hn hk hp hml hb hy
    refine Run.cut (Evp.of_eq (fun k => zoetropelaw25_ChainBrightness.p2085492 k ..) ?_)
    refine Evp.pos (by decide) (Evp.some rfl ?_)
    exact Evp.dec (fun h => absurd h (by show ¬ ((i : Int) < (s.m1.qs.length : Int)); omega)) fun _ => Evp.ret (hnext M ys hk hp hml hb hy)
  | succ d ih =>
    intro i M ys hd hi hn hk hp hml hb hy
    have hil : i < s.m1.qs.length := by omega
    refine Run.cut (Evp.of_eq (fun k => zoetropelaw25_ChainBrightness.p2085492 k ..) ?_)
    refine Evp.pos (by decide) (Evp.some rfl ?_)
    refine Evp.dec (fun _ => ?_) fun h => absurd (show (i : Int) < (s.m1.qs.length : Int) by omega) h
    refine Evp.pos (by decide) (Evp.some rfl (Evp.pos (by decide) (Evp.some rfl (Evp.pos (show 0 ≤ (i : Int) ∧ (i : Int) < (s.m1.qs.length : Int) by omega) ?_))))
    simp only [Int.toNat_natCast]
    have rb : RdB M (some a) ys := hb.rd (by simp)
    refine Evp.some hA ?_
    obtain ⟨a', ea, _, hld⟩ := rb.ld (i := i) (by omega)
    injection ea with ea; subst ea
    refine Evp.some (b := ys.getD i false) (by rw [hld]; rfl) (Evp.pos (show 0 ≤ (i : Int) ∧ (i : Int) < (s.m1.qs.length : Int) by omega) (Evp.some hA ?_))
    obtain ⟨M1, g1, g2, g3, g4, g5⟩ := hb.st (lo := lo) (i := i) (vs := [.bool (!ys.getD i false)]) hp hlo (by simp; omega)
    refine Evp.some g1 ?_
    rw [setL_one, show (ys.map Value.bool).set i (.bool (!ys.getD i false)) = (ys.set i (!ys.getD i false)).map Value.bool by rw [List.map_set]] at g2
    rw [w64 (x := (i : Int) + 1) (by omega)]
    exact Evp.ret (ih (i + 1) M1 _ (by omega) (by omega) hn (hk.trans fun j x hx hj => g4 j x hx fun z e => by injection e with e; subst e; exact fun q => hj q.symm) g3 (by omega) g2 (by simpa using hy))
theorem br_units1 (M0 Mi : Mem) (hlo : lo ≤ M0.length) (a : Addr) (hA : s.u1.A = some a) (X' : List Value) {Q : Value × Mem → Prop}
    (hnext : ∀ (M' : Mem) (us : List Un), KeepB a.block Mi M' → Pre M0 M' → Mi.length ≤ M'.length → Buf M0 M' a (cellsU us) → us.length = s.u1.us.length → (∀ u ∈ us, u = u0) → Run P T lo F.zoetropelaw25_ChainBrightness (zoetropelaw25_ChainBrightness.c2036 A1 ms.length c3 (IntKind.i64.wrap ((1 : Int) + 1)) f.p0.w f.p0.h f.p0.A f.p0.xs.length f.p0.c f.p1.w f.p1.h f.p1.A f.p1.xs.length f.p1.c f.p2.w f.p2.h f.p2.A f.p2.xs.length f.p2.c hd.h0 hd.h1 hd.h2 hd.h3 hd.h4 hd.h5 hd.h6 hd.h7 hd.h8 hd.h9 hd.h10 hd.h11 hd.h12 hd.h13 hd.h14 hd.h15 hd.h16 hd.h17 hd.h18 hd.h19 hd.h20 hd.h21 hd.h22 hd.cdef hd.damp hd.h25 hd.A hd.n hd.c hd.h27 hd.h28 hd.h29 s.m0.w s.m0.h s.m0.AT s.m0.tx.length s.m0.ct s.m0.AI s.m0.ids.length s.m0.ci s.m0.AQ s.m0.qs.length s.m0.cq s.m1.w s.m1.h s.m1.AT s.m1.tx.length s.m1.ct s.m1.AI s.m1.ids.length s.m1.ci s.m1.AQ s.m1.qs.length s.m1.cq s.m2.w s.m2.h s.m2.AT s.m2.tx.length s.m2.ct s.m2.AI s.m2.ids.length s.m2.ci s.m2.AQ s.m2.qs.length s.m2.cq s.Q s.qs.length s.qc s.V s.ws.length s.vc s.u0.A s.u0.us.length s.u0.c s.u1.A s.u1.us.length s.u1.c s.u2.A s.u2.us.length s.u2.c O.p0.w O.p0.h O.p0.A O.p0.xs.length O.p0.c O.p1.w O.p1.h O.p1.A O.p1.xs.length O.p1.c O.p2.w O.p2.h O.p2.A O.p2.xs.length O.p2.c X' M') Q) :
    ∀ (d i : Nat) (M : Mem) (us : List Un), s.u1.us.length - i = d → i ≤ s.u1.us.length → s.u1.us.length ≤ 140737488351232 → KeepB a.block Mi M → Pre M0 M → Mi.length ≤ M.length → Buf M0 M a (cellsU us) → us.length = s.u1.us.length → (∀ j u, j < i → us[j]? = some u → u = u0) →
      Run P T lo F.zoetropelaw25_ChainBrightness (zoetropelaw25_ChainBrightness.c2085500 A1 ms.length c3 (1 : Int) (i : Int) f.p0.w f.p0.h f.p0.A f.p0.xs.length f.p0.c f.p1.w f.p1.h f.p1.A f.p1.xs.length f.p1.c f.p2.w f.p2.h f.p2.A f.p2.xs.length f.p2.c hd.h0 hd.h1 hd.h2 hd.h3 hd.h4 hd.h5 hd.h6 hd.h7 hd.h8 hd.h9 hd.h10 hd.h11 hd.h12 hd.h13 hd.h14 hd.h15 hd.h16 hd.h17 hd.h18 hd.h19 hd.h20 hd.h21 hd.h22 hd.cdef hd.damp hd.h25 hd.A hd.n hd.c hd.h27 hd.h28 hd.h29 s.m0.w s.m0.h s.m0.AT s.m0.tx.length s.m0.ct s.m0.AI s.m0.ids.length s.m0.ci s.m0.AQ s.m0.qs.length s.m0.cq s.m1.w s.m1.h s.m1.AT s.m1.tx.length s.m1.ct s.m1.AI s.m1.ids.length s.m1.ci s.m1.AQ s.m1.qs.length s.m1.cq s.m2.w s.m2.h s.m2.AT s.m2.tx.length s.m2.ct s.m2.AI s.m2.ids.length s.m2.ci s.m2.AQ s.m2.qs.length s.m2.cq s.Q s.qs.length s.qc s.V s.ws.length s.vc s.u0.A s.u0.us.length s.u0.c s.u1.A s.u1.us.length s.u1.c s.u2.A s.u2.us.length s.u2.c O.p0.w O.p0.h O.p0.A O.p0.xs.length O.p0.c O.p1.w O.p1.h O.p1.A O.p1.xs.length O.p1.c O.p2.w O.p2.h O.p2.A O.p2.xs.length O.p2.c X' M) Q := by
  intro d
  induction d with
  | zero =>
    intro i M us hd hi hn hk hp hml hb hy hz
    refine Run.cut (Evp.of_eq (fun k => zoetropelaw25_ChainBrightness.p2085500 k ..) ?_)
    refine Evp.pos (by decide) (Evp.some rfl ?_)
    refine Evp.dec (fun h => absurd h (by show ¬ ((i : Int) < (s.u1.us.length : Int)); omega)) fun _ => Evp.ret (hnext M us hk hp hml hb hy fun u hu => ?_)
    obtain ⟨j, hj, rfl⟩ := List.getElem_of_mem hu
    exact hz j _ (by omega) (List.getElem?_eq_getElem hj)
  | succ d ih =>
    intro i M us hd hi hn hk hp hml hb hy hz
    have hil : i < s.u1.us.length := by omega
    refine Run.cut (Evp.of_eq (fun k => zoetropelaw25_ChainBrightness.p2085500 k ..) ?_)
    refine Evp.pos (by decide) (Evp.some rfl ?_)
    refine Evp.dec (fun _ => ?_) fun h => absurd (show (i : Int) < (s.u1.us.length : Int) by omega) h
    refine Evp.pos (by decide) (Evp.some rfl (Evp.pos (show 0 ≤ (i : Int) ∧ (i : Int) < (s.u1.us.length : Int) by omega) ?_))
    simp only [Int.toNat_natCast]
    refine Evp.some hA ?_
    obtain ⟨M1, g1, g2, g3, g4, g5⟩ := hb.st (lo := lo) (i := i * 7) (vs := u0.cells) hp hlo (by rw [cellsU_len, hy]; show i * 7 + 7 ≤ _; omega)
    refine Evp.some g1 ?_
    rw [cellsU_set (by omega)] at g2
    rw [w64 (x := (i : Int) + 1) (by omega)]
    refine Evp.ret (ih (i + 1) M1 (us.set i u0) (by omega) (by omega) hn (hk.trans fun j x hx hj => g4 j x hx fun z e => by injection e with e; subst e; exact fun q => hj q.symm) g3 (by omega) g2 (by simpa using hy) fun j u hj hju => ?_)
    by_cases e : j = i
    · subst e
      rw [List.getElem?_set_self (by omega)] at hju
      injection hju with hju; exact hju.symm
    · rw [List.getElem?_set_ne (by omega)] at hju
      exact hz j u (by omega) hju
theorem br_pix2 (M0 Mi : Mem) (a : Addr) (c : Nat) (w h : Int) (hlo : lo ≤ Mi.length) (hm : RdI Mi .u8 A1 ms) (hmn : ms.length ≤ 140737488351232) (N : Nat) (hN : N ≤ 262144) {Q : Value × Mem → Prop}
    (hnext : ∀ (M' : Mem) (zs : List Int), Pre Mi M' → Buf Mi M' a (zs.map (Value.int .u8)) → Bytes zs → zs.length = N → Run P T lo F.zoetropelaw25_ChainBrightness (zoetropelaw25_ChainBrightness.c2085492 A1 ms.length c3 (2 : Int) 0 f.p0.w f.p0.h f.p0.A f.p0.xs.length f.p0.c f.p1.w f.p1.h f.p1.A f.p1.xs.length f.p1.c f.p2.w f.p2.h f.p2.A f.p2.xs.length f.p2.c hd.h0 hd.h1 hd.h2 hd.h3 hd.h4 hd.h5 hd.h6 hd.h7 hd.h8 hd.h9 hd.h10 hd.h11 hd.h12 hd.h13 hd.h14 hd.h15 hd.h16 hd.h17 hd.h18 hd.h19 hd.h20 hd.h21 hd.h22 hd.cdef hd.damp hd.h25 hd.A hd.n hd.c hd.h27 hd.h28 hd.h29 s.m0.w s.m0.h s.m0.AT s.m0.tx.length s.m0.ct s.m0.AI s.m0.ids.length s.m0.ci s.m0.AQ s.m0.qs.length s.m0.cq s.m1.w s.m1.h s.m1.AT s.m1.tx.length s.m1.ct s.m1.AI s.m1.ids.length s.m1.ci s.m1.AQ s.m1.qs.length s.m1.cq s.m2.w s.m2.h s.m2.AT s.m2.tx.length s.m2.ct s.m2.AI s.m2.ids.length s.m2.ci s.m2.AQ s.m2.qs.length s.m2.cq s.Q s.qs.length s.qc s.V s.ws.length s.vc s.u0.A s.u0.us.length s.u0.c s.u1.A s.u1.us.length s.u1.c s.u2.A s.u2.us.length s.u2.c O.p0.w O.p0.h O.p0.A O.p0.xs.length O.p0.c O.p1.w O.p1.h O.p1.A O.p1.xs.length O.p1.c O.p2.w O.p2.h O.p2.A O.p2.xs.length O.p2.c (setL X.cells (0 + ((2 : Int).toNat * 3)) [.int .i64 w, .int .i64 h, .slice (some a) N c]) M') Q) :
    ∀ (d i : Nat) (M : Mem) (zs : List Int), N - i = d → i ≤ N → Pre Mi M → Buf Mi M a (zs.map (Value.int .u8)) → Bytes zs → zs.length = N →
      Run P T lo F.zoetropelaw25_ChainBrightness (zoetropelaw25_ChainBrightness.c521364 A1 ms.length c3 (2 : Int) (i : Int) f.p0.w f.p0.h f.p0.A f.p0.xs.length f.p0.c f.p1.w f.p1.h f.p1.A f.p1.xs.length f.p1.c f.p2.w f.p2.h f.p2.A f.p2.xs.length f.p2.c hd.h0 hd.h1 hd.h2 hd.h3 hd.h4 hd.h5 hd.h6 hd.h7 hd.h8 hd.h9 hd.h10 hd.h11 hd.h12 hd.h13 hd.h14 hd.h15 hd.h16 hd.h17 hd.h18 hd.h19 hd.h20 hd.h21 hd.h22 hd.cdef hd.damp hd.h25 hd.A hd.n hd.c hd.h27 hd.h28 hd.h29 s.m0.w s.m0.h s.m0.AT s.m0.tx.length s.m0.ct s.m0.AI s.m0.ids.length s.m0.ci s.m0.AQ s.m0.qs.length s.m0.cq s.m1.w s.m1.h s.m1.AT s.m1.tx.length s.m1.ct s.m1.AI s.m1.ids.length s.m1.ci s.m1.AQ s.m1.qs.length s.m1.cq s.m2.w s.m2.h s.m2.AT s.m2.tx.length s.m2.ct s.m2.AI s.m2.ids.length s.m2.ci s.m2.AQ s.m2.qs.length s.m2.cq s.Q s.qs.length s.qc s.V s.ws.length s.vc s.u0.A s.u0.us.length s.u0.c s.u1.A s.u1.us.length s.u1.c s.u2.A s.u2.us.length s.u2.c O.p0.w O.p0.h O.p0.A O.p0.xs.length O.p0.c O.p1.w O.p1.h O.p1.A O.p1.xs.length O.p1.c O.p2.w O.p2.h O.p2.A O.p2.xs.length O.p2.c X.cells w h (some a) N c M) Q := by
  intro d
  induction d with
  | zero =>
    intro i M zs hd hi hp hb bz hz
    refine Run.cut (Evp.of_eq (fun k => zoetropelaw25_ChainBrightness.p521364 k ..) ?_)
    refine Evp.dec (fun h => absurd h (by omega)) fun _ => ?_
    exact Evp.pos (by decide) (Evp.pos (Nat.le_of_ble_eq_true rfl) (Evp.ret (hnext M zs hp hb bz hz)))
  | succ d ih =>
    intro i M zs hd hi hp hb bz hz
    refine Run.cut (Evp.of_eq (fun k => zoetropelaw25_ChainBrightness.p521364 k ..) ?_)
    refine Evp.dec (fun _ => ?_) fun h => absurd h (by omega)
    refine Evp.dec (fun hpos => ?_) fun _ => Evp.pos (by decide) (Evp.pos (Nat.le_of_ble_eq_true rfl) (Evp.ret (hnext M zs hp hb bz hz)))
    refine Evp.pos (by omega) ?_
    simp only [Int.toNat_natCast]
    refine Evp.ldI hb.rdI (by omega) fun _ _ => ?_
    have et : Int.tmod (i : Int) (ms.length : Int) = ((i % ms.length : Nat) : Int) := rfl
    have hlt : i % ms.length < ms.length := Nat.mod_lt _ (by omega)
    rw [et]
    refine Evp.neg (by omega) (Evp.pos (by omega) ?_)
    simp only [Int.toNat_natCast]
    refine Evp.ldI (hm.pre hp) hlt fun _ _ => ?_
    refine Evp.pos (by omega) (Evp.some rfl ?_)
    obtain ⟨M1, g1, g2, g3, g4, g5⟩ := hb.st (lo := lo) (i := i) (vs := [.int .u8 (IntKind.u8.wrap (zs.getD i 0 + ms.getD (i % ms.length) 0))]) hp hlo (by simp; omega)
    refine Evp.some g1 ?_
    rw [setL_one, set_map] at g2
    rw [w64 (x := (i : Int) + 1) (by omega)]
    exact Evp.ret (ih (i + 1) M1 _ (by omega) (by omega) g3 g2 (set_bytes bz i (by rw [IntKind.wrap_u8]; omega)) (by simpa using hz))
theorem br_quiet2 (M0 Mi : Mem) (hlo : lo ≤ M0.length) (a : Addr) (hA : s.m2.AQ = some a) (X' : List Value) {Q : Value × Mem → Prop}
    (hnext : ∀ (M' : Mem) (ys : List Bool), KeepB a.block Mi M' → Pre M0 M' → Mi.length ≤ M'.length → Buf M0 M' a (ys.map Value.bool) → ys.length = s.m2.qs.length → Run P T lo F.zoetropelaw25_ChainBrightness (zoetropelaw25_ChainBrightness.c2085500 A1 ms.length c3 (2 : Int) 0 f.p0.w f.p0.h f.p0.A f.p0.xs.length f.p0.c f.p1.w f.p1.h f.p1.A f.p1.xs.length f.p1.c f.p2.w f.p2.h f.p2.A f.p2.xs.length f.p2.c hd.h0 hd.h1 hd.h2 hd.h3 hd.h4 hd.h5 hd.h6 hd.h7 hd.h8 hd.h9 hd.h10 hd.h11 hd.h12 hd.h13 hd.h14 hd.h15 hd.h16 hd.h17 hd.h18 hd.h19 hd.h20 hd.h21 hd.h22 hd.cdef hd.damp hd.h25 hd.A hd.n hd.c hd.h27 hd.h28 hd.h29 s.m0.w s.m0.h s.m0.AT s.m0.tx.length s.m0.ct s.m0.AI s.m0.ids.length s.m0.ci s.m0.AQ s.m0.qs.length s.m0.cq s.m1.w s.m1.h s.m1.AT s.m1.tx.length s.m1.ct s.m1.AI s.m1.ids.length s.m1.ci s.m1.AQ s.m1.qs.length s.m1.cq s.m2.w s.m2.h s.m2.AT s.m2.tx.length s.m2.ct s.m2.AI s.m2.ids.length s.m2.ci s.m2.AQ s.m2.qs.length s.m2.cq s.Q s.qs.length s.qc s.V s.ws.length s.vc s.u0.A s.u0.us.length s.u0.c s.u1.A s.u1.us.length s.u1.c s.u2.A s.u2.us.length s.u2.c O.p0.w O.p0.h O.p0.A O.p0.xs.length O.p0.c O.p1.w O.p1.h O.p1.A O.p1.xs.length O.p1.c O.p2.w O.p2.h O.p2.A O.p2.xs.length O.p2.c X' M') Q) :
    ∀ (d i : Nat) (M : Mem) (ys : List Bool), s.m2.qs.length - i = d → i ≤ s.m2.qs.length → s.m2.qs.length ≤ 140737488351232 → KeepB a.block Mi M → Pre M0 M → Mi.length ≤ M.length → Buf M0 M a (ys.map Value.bool) → ys.length = s.m2.qs.length →
      Run P T lo F.zoetropelaw25_ChainBrightness (zoetropelaw25_ChainBrightness.c2085492 A1 ms.length c3 (2 : Int) (i : Int) f.p0.w f.p0.h f.p0.A f.p0.xs.length f.p0.c f.p1.w f.p1.h f.p1.A f.p1.xs.length f.p1.c f.p2.w f.p2.h f.p2.A f.p2.xs.length f.p2.c hd.h0 hd.h1 hd.h2 hd.h3 hd.h4 hd.h5 hd.h6 hd.h7 hd.h8 hd.h9 hd.h10 hd.h11 hd.h12 hd.h13 hd.h14 hd.h15 hd.h16 hd.h17 hd.h18 hd.h19 hd.h20 hd.h21 hd.h22 hd.cdef hd.damp hd.h25 hd.A hd.n hd.c hd.h27 hd.h28 hd.h29 s.m0.w s.m0.h s.m0.AT s.m0.tx.length s.m0.ct s.m0.AI s.m0.ids.length s.m0.ci s.m0.AQ s.m0.qs.length s.m0.cq s.m1.w s.m1.h s.m1.AT s.m1.tx.length s.m1.ct s.m1.AI s.m1.ids.length s.m1.ci s.m1.AQ s.m1.qs.length s.m1.cq s.m2.w s.m2.h s.m2.AT s.m2.tx.length s.m2.ct s.m2.AI s.m2.ids.length s.m2.ci s.m2.AQ s.m2.qs.length s.m2.cq s.Q s.qs.length s.qc s.V s.ws.length s.vc s.u0.A s.u0.us.length s.u0.c s.u1.A s.u1.us.length s.u1.c s.u2.A s.u2.us.length s.u2.c O.p0.w O.p0.h O.p0.A O.p0.xs.length O.p0.c O.p1.w O.p1.h O.p1.A O.p1.xs.length O.p1.c O.p2.w O.p2.h O.p2.A O.p2.xs.length O.p2.c X' M) Q := by
  intro d
  induction d with
  | zero =>
    intro i M ys hd hi hn hk hp hml hb hy
    refine Run.cut (Evp.of_eq (fun k => zoetropelaw25_ChainBrightness.p2085492 k ..) ?_)
    refine Evp.pos (by decide) (Evp.some rfl ?_)
    exact Evp.dec (fun h => absurd h (by show ¬ ((i : Int) < (s.m2.qs.length : Int)); omega)) fun _ => Evp.ret (hnext M ys hk hp hml hb hy)
  | succ d ih =>
    intro i M ys hd hi hn hk hp hml hb hy
    have hil : i < s.m2.qs.length := by omega
    refine Run.cut (Evp.of_eq (fun k => zoetropelaw25_ChainBrightness.p2085492 k ..) ?_)
    refine Evp.pos (by decide) (Evp.some rfl ?_)
    refine Evp.dec (fun _ => ?_) fun h => absurd (show (i : Int) < (s.m2.qs.length : Int) by omega) h
    refine Evp.pos (by decide) (Evp.some rfl (Evp.pos (by decide) (Evp.some rfl (Evp.pos (show 0 ≤ (i : Int) ∧ (i : Int) < (s.m2.qs.length : Int) by omega) ?_))))
    simp only [Int.toNat_natCast]
    have rb : RdB M (some a) ys := hb.rd (by simp)
    refine Evp.some hA ?_
    obtain ⟨a', ea, _, hld⟩ := rb.ld (i := i) (by omega)
    injection ea with ea; subst ea
    refine Evp.some (b := ys.getD i false) (by rw [hld]; rfl) (Evp.pos (show 0 ≤ (i : Int) ∧ (i : Int) < (s.m2.qs.length : Int) by omega) (Evp.some hA ?_))
    obtain ⟨M1, g1, g2, g3, g4, g5⟩ := hb.st (lo := lo) (i := i) (vs := [.bool (!ys.getD i false)]) hp hlo (by simp; omega)
    refine Evp.some g1 ?_
    rw [setL_one, show (ys.map Value.bool).set i (.bool (!ys.getD i false)) = (ys.set i (!ys.getD i false)).map Value.bool by rw [List.map_set]] at g2
    rw [w64 (x := (i : Int) + 1) (by omega)]
    exact Evp.ret (ih (i + 1) M1 _ (by omega) (by omega) hn (hk.trans fun j x hx hj => g4 j x hx fun z e => by injection e with e; subst e; exact fun q => hj q.symm) g3 (by omega) g2 (by simpa using hy))
theorem br_units2 (M0 Mi : Mem) (hlo : lo ≤ M0.length) (a : Addr) (hA : s.u2.A = some a) (X' : List Value) {Q : Value × Mem → Prop}
    (hnext : ∀ (M' : Mem) (us : List Un), KeepB a.block Mi M' → Pre M0 M' → Mi.length ≤ M'.length → Buf M0 M' a (cellsU us) → us.length = s.u2.us.length → (∀ u ∈ us, u = u0) → Run P T lo F.zoetropelaw25_ChainBrightness (zoetropelaw25_ChainBrightness.c2036 A1 ms.length c3 (IntKind.i64.wrap ((2 : Int) + 1)) f.p0.w f.p0.h f.p0.A f.p0.xs.length f.p0.c f.p1.w f.p1.h f.p1.A f.p1.xs.length f.p1.c f.p2.w f.p2.h f.p2.A f.p2.xs.length f.p2.c hd.h0 hd.h1 hd.h2 hd.h3 hd.h4 hd.h5 hd.h6 hd.h7 hd.h8 hd.h9 hd.h10 hd.h11 hd.h12 hd.h13 hd.h14 hd.h15 hd.h16 hd.h17 hd.h18 hd.h19 hd.h20 hd.h21 hd.h22 hd.cdef hd.damp hd.h25 hd.A hd.n hd.c hd.h27 hd.h28 hd.h29 s.m0.w s.m0.h s.m0.AT s.m0.tx.length s.m0.ct s.m0.AI s.m0.ids.length s.m0.ci s.m0.AQ s.m0.qs.length s.m0.cq s.m1.w s.m1.h s.m1.AT s.m1.tx.length s.m1.ct s.m1.AI s.m1.ids.length s.m1.ci s.m1.AQ s.m1.qs.length s.m1.cq s.m2.w s.m2.h s.m2.AT s.m2.tx.length s.m2.ct s.m2.AI s.m2.ids.length s.m2.ci s.m2.AQ s.m2.qs.length s.m2.cq s.Q s.qs.length s.qc s.V s.ws.length s.vc s.u0.A s.u0.us.length s.u0.c s.u1.A s.u1.us.length s.u1.c s.u2.A s.u2.us.length s.u2.c O.p0.w O.p0.h O.p0.A O.p0.xs.length O.p0.c O.p1.w O.p1.h O.p1.A O.p1.xs.length O.p1.c O.p2.w O.p2.h O.p2.A O.p2.xs.length O.p2.c X' M') Q) :
    ∀ (d i : Nat) (M : Mem) (us : List Un), s.u2.us.length - i = d → i ≤ s.u2.us.length → s.u2.us.length ≤ 140737488351232 → KeepB a.block Mi M → Pre M0 M → Mi.length ≤ M.length → Buf M0 M a (cellsU us) → us.length = s.u2.us.length → (∀ j u, j < i → us[j]? = some u → u = u0) →
      Run P T lo F.zoetropelaw25_ChainBrightness (zoetropelaw25_ChainBrightness.c2085500 A1 ms.length c3 (2 : Int) (i : Int) f.p0.w f.p0.h f.p0.A f.p0.xs.length f.p0.c f.p1.w f.p1.h f.p1.A f.p1.xs.length f.p1.c f.p2.w f.p2.h f.p2.A f.p2.xs.length f.p2.c hd.h0 hd.h1 hd.h2 hd.h3 hd.h4 hd.h5 hd.h6 hd.h7 hd.h8 hd.h9 hd.h10 hd.h11 hd.h12 hd.h13 hd.h14 hd.h15 hd.h16 hd.h17 hd.h18 hd.h19 hd.h20 hd.h21 hd.h22 hd.cdef hd.damp hd.h25 hd.A hd.n hd.c hd.h27 hd.h28 hd.h29 s.m0.w s.m0.h s.m0.AT s.m0.tx.length s.m0.ct s.m0.AI s.m0.ids.length s.m0.ci s.m0.AQ s.m0.qs.length s.m0.cq s.m1.w s.m1.h s.m1.AT s.m1.tx.length s.m1.ct s.m1.AI s.m1.ids.length s.m1.ci s.m1.AQ s.m1.qs.length s.m1.cq s.m2.w s.m2.h s.m2.AT s.m2.tx.length s.m2.ct s.m2.AI s.m2.ids.length s.m2.ci s.m2.AQ s.m2.qs.length s.m2.cq s.Q s.qs.length s.qc s.V s.ws.length s.vc s.u0.A s.u0.us.length s.u0.c s.u1.A s.u1.us.length s.u1.c s.u2.A s.u2.us.length s.u2.c O.p0.w O.p0.h O.p0.A O.p0.xs.length O.p0.c O.p1.w O.p1.h O.p1.A O.p1.xs.length O.p1.c O.p2.w O.p2.h O.p2.A O.p2.xs.length O.p2.c X' M) Q := by
  intro d
  induction d with
  | zero =>
    intro i M us hd hi hn hk hp hml hb hy hz
    refine Run.cut (Evp.of_eq (fun k => zoetropelaw25_ChainBrightness.p2085500 k ..) ?_)
    refine Evp.pos (by decide) (Evp.some rfl ?_)
    refine Evp.dec (fun h => absurd h (by show ¬ ((i : Int) < (s.u2.us.length : Int)); omega)) fun _ => Evp.ret (hnext M us hk hp hml hb hy fun u hu => ?_)
    obtain ⟨j, hj, rfl⟩ := List.getElem_of_mem hu
    exact hz j _ (by omega) (List.getElem?_eq_getElem hj)
  | succ d ih =>
    intro i M us hd hi hn hk hp hml hb hy hz
    have hil : i < s.u2.us.length := by omega
    refine Run.cut (Evp.of_eq (fun k => zoetropelaw25_ChainBrightness.p2085500 k ..) ?_)
    refine Evp.pos (by decide) (Evp.some rfl ?_)
    refine Evp.dec (fun _ => ?_) fun h => absurd (show (i : Int) < (s.u2.us.length : Int) by omega) h
    refine Evp.pos (by decide) (Evp.some rfl (Evp.pos (show 0 ≤ (i : Int) ∧ (i : Int) < (s.u2.us.length : Int) by omega) ?_))
    simp only [Int.toNat_natCast]
    refine Evp.some hA ?_
    obtain ⟨M1, g1, g2, g3, g4, g5⟩ := hb.st (lo := lo) (i := i * 7) (vs := u0.cells) hp hlo (by rw [cellsU_len, hy]; show i * 7 + 7 ≤ _; omega)
    refine Evp.some g1 ?_
    rw [cellsU_set (by omega)] at g2
    rw [w64 (x := (i : Int) + 1) (by omega)]
    refine Evp.ret (ih (i + 1) M1 (us.set i u0) (by omega) (by omega) hn (hk.trans fun j x hx hj => g4 j x hx fun z e => by injection e with e; subst e; exact fun q => hj q.symm) g3 (by omega) g2 (by simpa using hy) fun j u hj hju => ?_)
    by_cases e : j = i
    · subst e
      rw [List.getElem?_set_self (by omega)] at hju
      injection hju with hju; exact hju.symm
    · rw [List.getElem?_set_ne (by omega)] at hju
      exact hz j u (by omega) hju
end
end Go.Zt
