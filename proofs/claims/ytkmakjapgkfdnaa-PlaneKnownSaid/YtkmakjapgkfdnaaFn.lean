/- The law that Frame, Whole, Coded, Crop answer as the chapter says: joined. -/
import Derived.Test.YtkmakjapgkfdnaaFm
set_option linter.unusedVariables false
set_option linter.unusedSimpArgs false
set_option maxRecDepth 100000
namespace Go.Zt
theorem F3o.pre {f : F3} {M0 M M' : Mem} {A0 A1 A2 : Option Addr} (h : F3o f M0 M A0 A1 A2) (hp : Pre M M') : F3o f M0 M' A0 A1 A2 :=
  ⟨h.1.pre hp, h.2.1.pre hp, h.2.2.1.pre hp, h.2.2.2⟩
theorem F3o.keepU {f : F3} {M0 M M' : Mem} {A0 A1 A2 : Option Addr} {U : Nat} (h : F3o f M0 M A0 A1 A2) (hk : KeepU U M M') (hU : U ≤ M0.length) : F3o f M0 M' A0 A1 A2 :=
  ⟨h.1.keepU hk hU, h.2.1.keepU hk hU, h.2.2.1.keepU hk hU, h.2.2.2⟩
theorem F3o.floor {f : F3} {M0 M1 M : Mem} {A0 A1 A2 : Option Addr} (h : F3o f M1 M A0 A1 A2) (hl : M0.length ≤ M1.length) : F3o f M0 M A0 A1 A2 :=
  ⟨h.1.floor hl, h.2.1.floor hl, h.2.2.1.floor hl, h.2.2.2⟩
theorem toldF {lo : Nat} {f : F3} {e : Int} {A0 A1 A2 B0 B1 B2 : Option Addr} {c0 c1 c2 d0 d1 d2 : Nat} (MB M1 M2 M3 M4 M : Mem) (U : Nat) (hlo : lo ≤ MB.length) (hp : Pre MB M) (h1 : MB.length ≤ M1.length) (oa0 : F3o f M1 M2 A0 A1 A2) (hU : M2.length ≤ U) (oa : F3o f M1 M A0 A1 A2) (ob_ : F3o f M3 M B0 B1 B2) :
    Ac P T lo F.zoetropelaw05_toldFrame [.agg ⟨[.int .i64 f.p0, .int .i64 f.q0, .slice A0 f.l0.length c0, .int .i64 f.p1, .int .i64 f.q1, .slice A1 f.l1.length c1, .int .i64 f.p2, .int .i64 f.q2, .slice A2 f.l2.length c2]⟩, .int .i64 e, .agg ⟨[.int .i64 f.p0, .int .i64 f.q0, .slice B0 f.l0.length d0, .int .i64 f.p1, .int .i64 f.q1, .slice B1 f.l1.length d1, .int .i64 f.p2, .int .i64 f.q2, .slice B2 f.l2.length d2]⟩, .int .i64 e] M fun r => ∃ M', r = (.bool true, M') ∧ Pre MB M' ∧ KeepU U M M' :=
  toldFrame_ok lo f e A0 A1 A2 B0 B1 B2 c0 c1 c2 d0 d1 d2 MB M U hlo hp (oa.floor h1) ob_.1.rd ob_.2.1.rd ob_.2.2.1.rd
    (fun a ha hz => Nat.lt_of_lt_of_le (oa0.1.lt a ha hz) hU) (fun a ha hz => Nat.lt_of_lt_of_le (oa0.2.1.lt a ha hz) hU) (fun a ha hz => Nat.lt_of_lt_of_le (oa0.2.2.1.lt a ha hz) hU)
theorem PlaneFrames_law (M : Mem) (vs : List Value) (hro : AllRo M) (hv : LaysArgs P M [43, 3, 3] vs) : Ac P T M.length F.zoetropelaw05_PlaneFrames vs M fun r => r.1 = .bool true := by
  obtain ⟨w0, h0, A0, c0, xs, w1, h1, A1, c1, ys, w2, h2, A2, c2, zs, W, H, rfl, _, _, hc0, hn0, hx, wx, _, _, hc1, hn1, hy, wy, _, _, hc2, hn2, hz, wz, _⟩ := Arg.PlaneFrames hv
  refine Ac.of (Evp.of_eq (fun k => zoetropelaw05_PlaneFrames.entry k ..) ?_)
  refine Evp.ob (copyFrame_ok _ _ _ _ _ _ _ _ _ _ _ _ _ _ _ _ _ hx hy hz (by omega) (by omega) (by omega)) ?_
  rintro _ ⟨X0, X1, X2, e0, e1, e2, M1, rfl, p1, rx, ry, rz, g0, g1, g2⟩
  simp only [ret_int, ret_bool, ret_flt, ret_slc, ret_str, ret_ptr, ret_agg, ret_tup, ob_some, bb_true, bb_false, List.getElem?_cons_zero, List.getElem?_cons_succ, List.length_cons, List.length_nil, Nat.reduceAdd, Nat.reduceLT]
  refine Evp.ob (whole_ok ..) ?_
  rintro _ rfl
  simp only [ret_int, ret_bool, ret_flt, ret_slc, ret_str, ret_ptr, ret_agg, ret_tup, ob_some, bb_true, bb_false, List.getElem?_cons_zero, List.getElem?_cons_succ, List.length_cons, List.length_nil, Nat.reduceAdd, Nat.reduceLT]
  refine Evp.ob (rwhole_ok ..) ?_
  rintro _ rfl
  simp only [ret_int, ret_bool, ret_flt, ret_slc, ret_str, ret_ptr, ret_agg, ret_tup, ob_some, bb_true, bb_false, List.getElem?_cons_zero, List.getElem?_cons_succ, List.length_cons, List.length_nil, Nat.reduceAdd, Nat.reduceLT]
  refine Evp.neb (fun h => absurd rfl h) fun _ => ?_
  refine Evp.ob (pframe_ok _ W H 9 M1 p1.len) ?_
  rintro _ ⟨F0, F1, F2, f0, f1, f2, M2, rfl, p2, oF⟩
  simp only [F3v, ret_int, ret_bool, ret_flt, ret_slc, ret_str, ret_ptr, ret_agg, ret_tup, ob_some, bb_true, bb_false, List.getElem?_cons_zero, List.getElem?_cons_succ, List.length_cons, List.length_nil, Nat.reduceAdd, Nat.reduceLT]
  have q2 := p1.trans p2
  refine Evp.ob (rframe_ok _ W H 9 M2 q2.len) ?_
  rintro _ ⟨F0', F1', F2', f0', f1', f2', M3, rfl, p3, oF'⟩
  simp only [F3v, ret_int, ret_bool, ret_flt, ret_slc, ret_str, ret_ptr, ret_agg, ret_tup, ob_some, bb_true, bb_false, List.getElem?_cons_zero, List.getElem?_cons_succ, List.length_cons, List.length_nil, Nat.reduceAdd, Nat.reduceLT]
  have q3 := q2.trans p3
  have r13 := p2.trans p3
  refine Evp.ob (pcoded_ok _ w0 h0 w1 h1 w2 h2 X0 X1 X2 e0 e1 e2 xs ys zs M3 q3.len (rx.pre r13) (ry.pre r13) (rz.pre r13) g0 g1 g2) ?_
  rintro _ ⟨C0, C1, C2, k0, k1, k2, M4, rfl, p4, oC⟩
  simp only [F3v, ret_int, ret_bool, ret_flt, ret_slc, ret_str, ret_ptr, ret_agg, ret_tup, ob_some, bb_true, bb_false, List.getElem?_cons_zero, List.getElem?_cons_succ, List.length_cons, List.length_nil, Nat.reduceAdd, Nat.reduceLT]
  have q4 := q3.trans p4
  have r14 := r13.trans p4
  refine Evp.ob (rcoded_ok _ w0 h0 w1 h1 w2 h2 A0 A1 A2 c0 c1 c2 xs ys zs M4 q4.len (hx.pre q4) (hy.pre q4) (hz.pre q4)) ?_
  rintro _ ⟨C0', C1', C2', k0', k1', k2', M5, rfl, p5, oC'⟩
  simp only [F3v, ret_int, ret_bool, ret_flt, ret_slc, ret_str, ret_ptr, ret_agg, ret_tup, ob_some, bb_true, bb_false, List.getElem?_cons_zero, List.getElem?_cons_succ, List.length_cons, List.length_nil, Nat.reduceAdd, Nat.reduceLT]
  have q5 := q4.trans p5
  have r15 := r14.trans p5
  refine Evp.ob (pcrop_ok _ w0 h0 w1 h1 w2 h2 X0 X1 X2 e0 e1 e2 xs ys zs M5 W H q5.len (rx.pre r15) (ry.pre r15) (rz.pre r15) g0 g1 g2) ?_
  rintro _ ⟨D0, D1, D2, m0, m1, m2, M6, rfl, p6, oD⟩
  simp only [F3v, ret_int, ret_bool, ret_flt, ret_slc, ret_str, ret_ptr, ret_agg, ret_tup, ob_some, bb_true, bb_false, List.getElem?_cons_zero, List.getElem?_cons_succ, List.length_cons, List.length_nil, Nat.reduceAdd, Nat.reduceLT]
  have q6 := q5.trans p6
  have r16 := r15.trans p6
  refine Evp.ob (rcrop_ok _ w0 h0 w1 h1 w2 h2 A0 A1 A2 c0 c1 c2 xs ys zs M6 W H q6.len (hx.pre q6) (hy.pre q6) (hz.pre q6)) ?_
  rintro _ ⟨D0', D1', D2', m0', m1', m2', M7, rfl, p7, oD'⟩
  simp only [F3v, ret_int, ret_bool, ret_flt, ret_slc, ret_str, ret_ptr, ret_agg, ret_tup, ob_some, bb_true, bb_false, List.getElem?_cons_zero, List.getElem?_cons_succ, List.length_cons, List.length_nil, Nat.reduceAdd, Nat.reduceLT]
  have r17 := r16.trans p7
  have l1 := p1.len
  have l2 := p2.len
  have l3 := p3.len
  have l4 := p4.len
  have l5 := p5.len
  have l6 := p6.len
  have p27 := (((p3.trans p4).trans p5).trans p6).trans p7
  have p37 := ((p4.trans p5).trans p6).trans p7
  have p47 := (p5.trans p6).trans p7
  have p57 := p6.trans p7
  refine Evp.ob (toldF M1 M1 M2 M2 M3 M7 M3.length l1 r17 (Nat.le_refl _) oF l3 (oF.pre p27) (oF'.pre p37)) ?_
  rintro _ ⟨M8, rfl, r18, u8⟩
  simp only [ret_int, ret_bool, ret_flt, ret_slc, ret_str, ret_ptr, ret_agg, ret_tup, ob_some, bb_true, bb_false, List.getElem?_cons_zero, List.getElem?_cons_succ, List.length_cons, List.length_nil, Nat.reduceAdd, Nat.reduceLT]
  refine Evp.tt rfl ?_
  have oC8 := (oC.pre p47).keepU u8 (Nat.le_refl _)
  have oC8' := (oC'.pre p57).keepU u8 l4
  have oD8 := (oD.pre p7).keepU u8 (by omega)
  have oD8' := oD'.keepU u8 (by omega)
  refine Evp.ob (toldF M1 M3 M4 M4 M5 M8 M5.length l1 r18 r13.len oC l5 oC8 oC8') ?_
  rintro _ ⟨M9, rfl, r19, u9⟩
  simp only [ret_int, ret_bool, ret_flt, ret_slc, ret_str, ret_ptr, ret_agg, ret_tup, ob_some, bb_true, bb_false, List.getElem?_cons_zero, List.getElem?_cons_succ, List.length_cons, List.length_nil, Nat.reduceAdd, Nat.reduceLT]
  refine Evp.tt rfl ?_
  have oD9 := oD8.keepU u9 (Nat.le_refl _)
  have oD9' := oD8'.keepU u9 l6
  refine Evp.ob (toldF M1 M5 M6 M6 M7 M9 M6.length l1 r19 r15.len oD (Nat.le_refl _) oD9 oD9') ?_
  rintro _ ⟨M10, rfl, r110, _⟩
  simp only [ret_int, ret_bool, ret_flt, ret_slc, ret_str, ret_ptr, ret_agg, ret_tup, ob_some, bb_true, bb_false, List.getElem?_cons_zero, List.getElem?_cons_succ, List.length_cons, List.length_nil, Nat.reduceAdd, Nat.reduceLT]
  refine Evp.tt rfl ?_
  have q10 := p1.trans r110
  refine Evp.ob (sameFrame_eq _ _ _ _ _ _ _ _ _ _ _ _ _ _ _ _ _ _ _ _ _ _ _ (rx.pre r110) (ry.pre r110) (rz.pre r110) (hx.pre q10) (hy.pre q10) (hz.pre q10) (by omega) (by omega) (by omega)) ?_
  rintro _ rfl
  simp only [ret_int, ret_bool, ret_flt, ret_slc, ret_str, ret_ptr, ret_agg, ret_tup, ob_some, bb_true, bb_false, List.getElem?_cons_zero, List.getElem?_cons_succ, List.length_cons, List.length_nil, Nat.reduceAdd, Nat.reduceLT]
  refine Evp.tt rfl ?_
  refine Evp.ob (works_ok _ _ q10.len) ?_
  rintro _ ⟨M11, rfl, _⟩
  simp only [ret_int, ret_bool, ret_flt, ret_slc, ret_str, ret_ptr, ret_agg, ret_tup, ob_some, bb_true, bb_false, List.getElem?_cons_zero, List.getElem?_cons_succ, List.length_cons, List.length_nil, Nat.reduceAdd, Nat.reduceLT]
  exact Evp.ret (Run.ret rfl)
end Go.Zt
