/- CdefNames, the rest (printed by genw.py). -/
import Derived.Test.YtkbdmbjhgomaiaaFv
set_option linter.unusedVariables false
set_option linter.unusedSimpArgs false
set_option maxRecDepth 100000
namespace Go.Zt
def mkHd (cdef : Bool) (damp : Int) (A : Option Addr) (n c : Nat) : Hd := ⟨false, 0, false, false, 0, 0, 0, 0, 0, 0, 0, 0, 0, 0, 0, 0, 0, false, 0, 0, 0, 0, 0, cdef, damp, 0, A, n, c, false, false, false⟩
section
variable (lo : Nat) (M0 : Mem) (hlo : lo ≤ M0.length)
include hlo
theorem names_strs (x y z : Fq) (M1 : Mem) (hx : x.Ok M1) (hy : y.Ok M1) (hz : z.Ok M1) : ∀ (d i : Nat) (M : Mem), 16 - i = d → i ≤ 16 → Pre M0 M → Pre M1 M → Run P T lo F.zoetropelaw23_CdefNames (zoetropelaw23_CdefNames.c2097140 i x.w0 x.h0 x.A0 x.n0 x.c0 x.w1 x.h1 x.A1 x.n1 x.c1 x.w2 x.h2 x.A2 x.n2 x.c2 y.w0 y.h0 y.A0 y.n0 y.c0 y.w1 y.h1 y.A1 y.n1 y.c1 y.w2 y.h2 y.A2 y.n2 y.c2 z.w0 z.h0 z.A0 z.n0 z.c0 z.w1 z.h1 z.A1 z.n1 z.c1 z.w2 z.h2 z.A2 z.n2 z.c2 M) fun r => r.1 = .bool true := by
  intro d
  induction d with
  | zero =>
    intro i M hd hi p0 p1
    have s0 : Slots M (M ++ [⟨.op 0, []⟩, ⟨.op 0, []⟩, ⟨.op 0, []⟩, ⟨.op 0, []⟩, ⟨.op 0, []⟩, ⟨.op 0, []⟩, ⟨.op 0, []⟩]) 0 7 := Slots.init (n := 7)
    have hl := Nat.le_trans hlo p0.len
    refine Run.cut (Evp.of_eq (fun k => zoetropelaw23_CdefNames.p2097140 k ..) ?_)
    refine Evp.dec (fun h => absurd h (by omega)) fun _ => ?_
    generalize (M ++ [⟨.op 0, []⟩, ⟨.op 0, []⟩, ⟨.op 0, []⟩, ⟨.op 0, []⟩, ⟨.op 0, []⟩, ⟨.op 0, []⟩, ⟨.op 0, []⟩] : Mem) = N0 at *
    refine Evp.pos (by decide) ?_
    obtain ⟨N1, e1, s1, g1, k1⟩ := s0.fill (i := M.length) (z := 4) (cs := zerosL [.int .i64 0, .int .i64 0, .int .i64 0, .int .i64 0] 1) (lo := lo) (by decide) rfl hl (by decide) (by decide)
    refine Evp.some e1 ?_
    try simp only []
    refine Evp.pos (by decide) ?_
    obtain ⟨N2, e2, s2, g2, k2⟩ := s1.fill (i := M.length + 1) (z := 4) (cs := zerosL [.int .i64 0, .int .i64 0, .int .i64 0, .int .i64 0] 1) (lo := lo) (by decide) rfl hl (by decide) (by decide)
    refine Evp.some e2 ?_
    try simp only []
    refine Evp.pos (by decide) ?_
    obtain ⟨N3, e3, s3, g3, k3⟩ := s2.fill (i := M.length + 1 + 1) (z := 4) (cs := zerosL [.int .i64 0, .int .i64 0, .int .i64 0, .int .i64 0] 1) (lo := lo) (by decide) rfl hl (by decide) (by decide)
    refine Evp.some e3 ?_
    try simp only []
    refine Evp.pos (by decide) ?_
    obtain ⟨N4, e4, s4, g4, k4⟩ := s3.fill (i := M.length + 1 + 1 + 1) (z := 4) (cs := zerosL [.int .i64 0, .int .i64 0, .int .i64 0, .int .i64 0] 9) (lo := lo) (by decide) rfl hl (by decide) (by decide)
    refine Evp.some e4 ?_
    try simp only []
    obtain ⟨N5, e5, s5, g5, k5⟩ := s4.fill (i := M.length + 1 + 1 + 1 + 1) (z := 4) (cs := [.int .i64 16, .int .i64 0, .int .i64 0, .int .i64 0]) (lo := lo) (by decide) rfl hl (by decide) (by decide)
    refine Evp.some e5 ?_
    try simp only []
    obtain ⟨N6, e6, s6, g6, k6⟩ := s5.fill (i := M.length + 1 + 1 + 1 + 1 + 1) (z := 4) (cs := [.int .i64 0, .int .i64 0, .int .i64 0, .int .i64 4]) (lo := lo) (by decide) rfl hl (by decide) (by decide)
    refine Evp.some e6 ?_
    try simp only []
    obtain ⟨N7, e7, s7, g7, k7⟩ := s6.fill (i := M.length + 1 + 1 + 1 + 1 + 1 + 1) (z := 4) (cs := [.int .i64 15, .int .i64 3, .int .i64 15, .int .i64 3]) (lo := lo) (by decide) rfl hl (by decide) (by decide)
    refine Evp.some e7 ?_
    try simp only []
    have G0 : ∀ B : Blk, Rd (N7 ++ [B]) (some ⟨M.length, 0, some (zerosL [.int .i64 0, .int .i64 0, .int .i64 0, .int .i64 0] 1 : List Value).length⟩) 1 4 (([0, 0, 0, 0] : List Int).map (Value.int .i64)) := fun B => (op_rd (n := 1) (w := 4) (cs := zerosL [.int .i64 0, .int .i64 0, .int .i64 0, .int .i64 0] 1) ((k7 _ (by omega)).trans ((k6 _ (by omega)).trans ((k5 _ (by omega)).trans ((k4 _ (by omega)).trans ((k3 _ (by omega)).trans ((k2 _ (by omega)).trans g1)))))) rfl).pre (Pre.app _ _)
    have G1 : ∀ B : Blk, Rd (N7 ++ [B]) (some ⟨M.length + 1, 0, some (zerosL [.int .i64 0, .int .i64 0, .int .i64 0, .int .i64 0] 1 : List Value).length⟩) 1 4 (([0, 0, 0, 0] : List Int).map (Value.int .i64)) := fun B => (op_rd (n := 1) (w := 4) (cs := zerosL [.int .i64 0, .int .i64 0, .int .i64 0, .int .i64 0] 1) ((k7 _ (by omega)).trans ((k6 _ (by omega)).trans ((k5 _ (by omega)).trans ((k4 _ (by omega)).trans ((k3 _ (by omega)).trans g2))))) rfl).pre (Pre.app _ _)
    have G2 : ∀ B : Blk, Rd (N7 ++ [B]) (some ⟨M.length + 1 + 1, 0, some (zerosL [.int .i64 0, .int .i64 0, .int .i64 0, .int .i64 0] 1 : List Value).length⟩) 1 4 (([0, 0, 0, 0] : List Int).map (Value.int .i64)) := fun B => (op_rd (n := 1) (w := 4) (cs := zerosL [.int .i64 0, .int .i64 0, .int .i64 0, .int .i64 0] 1) ((k7 _ (by omega)).trans ((k6 _ (by omega)).trans ((k5 _ (by omega)).trans ((k4 _ (by omega)).trans g3)))) rfl).pre (Pre.app _ _)
    have G3 : ∀ B : Blk, Rd (N7 ++ [B]) (some ⟨M.length + 1 + 1 + 1, 0, some (zerosL [.int .i64 0, .int .i64 0, .int .i64 0, .int .i64 0] 9 : List Value).length⟩) 9 4 (((List.replicate 36 0) : List Int).map (Value.int .i64)) := fun B => (op_rd (n := 9) (w := 4) (cs := zerosL [.int .i64 0, .int .i64 0, .int .i64 0, .int .i64 0] 9) ((k7 _ (by omega)).trans ((k6 _ (by omega)).trans ((k5 _ (by omega)).trans g4))) rfl).pre (Pre.app _ _)
    have G4 : ∀ B : Blk, Rd (N7 ++ [B]) (some ⟨M.length + 1 + 1 + 1 + 1, 0, some ([.int .i64 16, .int .i64 0, .int .i64 0, .int .i64 0] : List Value).length⟩) 1 4 (([16, 0, 0, 0] : List Int).map (Value.int .i64)) := fun B => (op_rd (n := 1) (w := 4) (cs := [.int .i64 16, .int .i64 0, .int .i64 0, .int .i64 0]) ((k7 _ (by omega)).trans ((k6 _ (by omega)).trans g5)) rfl).pre (Pre.app _ _)
    have G5 : ∀ B : Blk, Rd (N7 ++ [B]) (some ⟨M.length + 1 + 1 + 1 + 1 + 1, 0, some ([.int .i64 0, .int .i64 0, .int .i64 0, .int .i64 4] : List Value).length⟩) 1 4 (([0, 0, 0, 4] : List Int).map (Value.int .i64)) := fun B => (op_rd (n := 1) (w := 4) (cs := [.int .i64 0, .int .i64 0, .int .i64 0, .int .i64 4]) ((k7 _ (by omega)).trans g6) rfl).pre (Pre.app _ _)
    have G6 : ∀ B : Blk, Rd (N7 ++ [B]) (some ⟨M.length + 1 + 1 + 1 + 1 + 1 + 1, 0, some ([.int .i64 15, .int .i64 3, .int .i64 15, .int .i64 3] : List Value).length⟩) 1 4 (([15, 3, 15, 3] : List Int).map (Value.int .i64)) := fun B => (op_rd (n := 1) (w := 4) (cs := [.int .i64 15, .int .i64 3, .int .i64 15, .int .i64 3]) g7 rfl).pre (Pre.app _ _)
    have v := s7.pre
    refine Evp.ret (names_heads lo M0 hlo _ _ _ (push_self N7 _) x y ((hx.pre (p1.trans v)).pre (Pre.app _ _)) ((hy.pre (p1.trans v)).pre (Pre.app _ _)) (fun i hi => ?_) _ 0 _ rfl (by decide) ((p0.trans v).trans (Pre.app _ _)) (Pre.refl _))
    match i, hi with
    | 0, _ => exact ⟨mkHd false 0 none 0 0, [], rfl, Rd.zero⟩
    | 1, _ => exact ⟨mkHd true 0 none 0 0, [], rfl, Rd.zero⟩
    | 2, _ => exact ⟨mkHd true 3 _ 1 1, _, rfl, G0 _⟩
    | 3, _ => exact ⟨mkHd true 2 _ 1 1, _, rfl, G1 _⟩
    | 4, _ => exact ⟨mkHd true 7 _ 1 1, _, rfl, G2 _⟩
    | 5, _ => exact ⟨mkHd true 6 _ 9 9, _, rfl, G3 _⟩
    | 6, _ => exact ⟨mkHd true 6 _ 1 1, _, rfl, G4 _⟩
    | 7, _ => exact ⟨mkHd true 6 _ 1 1, _, rfl, G5 _⟩
    | 8, _ => exact ⟨mkHd true 6 _ 1 1, _, rfl, G6 _⟩
  | succ d ih =>
    intro i M hd hi p0 p1
    have s0 : Slots M (M ++ [⟨.op 0, []⟩, ⟨.op 0, []⟩, ⟨.op 0, []⟩]) 0 3 := Slots.init (n := 3)
    refine Run.cut (Evp.of_eq (fun k => zoetropelaw23_CdefNames.p2097140 k ..) ?_)
    refine Evp.dec (fun _ => ?_) fun h => absurd h (by omega)
    generalize (M ++ [⟨.op 0, []⟩, ⟨.op 0, []⟩, ⟨.op 0, []⟩] : Mem) = N0 at *
    refine Evp.pos (by decide) ?_
    obtain ⟨N1, e1, s1, g1, k1⟩ := s0.fill (i := M.length) (z := 1) (cs := zerosL [.bool false] 4) (lo := M.length) (by decide) rfl (Nat.le_refl _) (by decide) (by decide)
    refine Evp.some e1 ?_
    try simp only []
    obtain ⟨N2, e2, s2, g2, k2⟩ := s1.fill (i := M.length + 1) (z := 1) (cs := [.int .i64 0]) (lo := M.length) (by decide) rfl (Nat.le_refl _) (by decide) (by decide)
    refine Evp.some e2 ?_
    try simp only []
    generalize IntKind.i64.wrap (1 + Int.tmod (i : Int) 3) = v1
    generalize IntKind.i64.wrap (Int.tdiv (i : Int) 4) = v2
    generalize IntKind.i64.wrap (3 + Int.tmod (i : Int) 4) = v3
    obtain ⟨N3, e3, s3, g3, k3⟩ := s2.fill (i := M.length + 1 + 1) (z := 4) (cs := [.int .i64 i, .int .i64 v1, .int .i64 v2, .int .i64 3]) (lo := M.length) (by decide) rfl (Nat.le_refl _) (by decide) (by simp)
    refine Evp.some e3 ?_
    try simp only []
    have RQ : RdB N3 (some ⟨M.length, 0, some (zerosL [.bool false] 4).length⟩) (List.replicate 4 false) := op_rd (n := 4) (w := 1) (cs := zerosL [.bool false] 4) ((k3 _ (by omega)).trans ((k2 _ (by omega)).trans g1)) rfl
    have RV : RdI N3 .i64 (some ⟨M.length + 1, 0, some 1⟩) [0] := op_rd (n := 1) (w := 1) (cs := [.int .i64 0]) ((k3 _ (by omega)).trans g2) rfl
    have RL : Rd N3 (some ⟨M.length + 1 + 1, 0, some 4⟩) 1 4 (([(i : Int), v1, v2, 3] : List Int).map (Value.int .i64)) := op_rd (n := 1) (w := 4) (cs := [.int .i64 i, .int .i64 v1, .int .i64 v2, .int .i64 3]) g3 rfl
    have v := s3.pre
    refine Evp.ob (frames_names M.length z.w0 z.h0 z.w1 z.h1 z.w2 z.h2 z.A0 z.A1 z.A2 z.n0 z.c0 z.n1 z.c1 z.n2 z.c2 z.xs z.ys z.zs _ _ 4 4 1 1 (List.replicate 4 false) [0] (mkHd true v3 (some ⟨M.length + 1 + 1, 0, some 4⟩) 1 1) _ N3 v.len (hz.pre (p1.trans v)) RQ rfl (by decide) RV rfl (by decide) RL) ?_
    rintro _ ⟨N4, rfl, q4⟩
    simp only [ret_int, ret_bool, ret_flt, ret_slc, ret_str, ret_ptr, ret_agg, ret_tup, ob_some, bb_true, bb_false, List.getElem?_cons_zero, List.getElem?_cons_succ, List.length_cons, List.length_nil, Nat.reduceAdd, Nat.reduceLT]
    refine Evp.ff rfl ?_
    rw [w64 (by omega), show (i : Int) + 1 = ((i + 1 : Nat) : Int) by omega]
    have u := v.trans q4
    exact Evp.ret (ih (i + 1) N4 (by omega) (by omega) (p0.trans u) (p1.trans u))
theorem names_paint (x y : Fq) (B : Mem) (hp : Pre M0 B) (hx : x.Ok B) (hy : y.Ok B) (a0 a1 a2 : Addr) (n01 : a0.block ≠ a1.block) (n02 : a0.block ≠ a2.block) : ∀ (d i : Nat) (xs : List Int) (M : Mem), 256 - i = d → i ≤ 256 → Bytes xs → xs.length = 256 → Pre B M → Buf B M a0 (xs.map (Value.int .u8)) → Buf B M a1 ((List.replicate 64 (9 : Int)).map (Value.int .u8)) → Buf B M a2 ((List.replicate 64 (9 : Int)).map (Value.int .u8)) → Run P T lo F.zoetropelaw23_CdefNames (zoetropelaw23_CdefNames.c1048564 i x.w0 x.h0 x.A0 x.n0 x.c0 x.w1 x.h1 x.A1 x.n1 x.c1 x.w2 x.h2 x.A2 x.n2 x.c2 y.w0 y.h0 y.A0 y.n0 y.c0 y.w1 y.h1 y.A1 y.n1 y.c1 y.w2 y.h2 y.A2 y.n2 y.c2 16 16 (some a0) 256 256 8 8 (some a1) 64 64 8 8 (some a2) 64 64 M) fun r => r.1 = .bool true := by
  intro d
  induction d with
  | zero =>
    intro i xs M hd hi bx lx pB b0 b1 b2
    refine Run.cut (Evp.of_eq (fun k => zoetropelaw23_CdefNames.p1048564 k ..) ?_)
    refine Evp.dec (fun h => absurd h (by omega)) fun _ => ?_
    have nine : Bytes (List.replicate 64 (9 : Int)) := Bytes.rep _ (by decide)
    exact Evp.ret (names_strs lo M0 hlo x y ⟨16, 16, 8, 8, 8, 8, some a0, some a1, some a2, 256, 256, 64, 64, 64, 64, xs, List.replicate 64 9, List.replicate 64 9⟩ M (hx.pre pB) (hy.pre pB) ⟨⟨b0.rdI, bx, lx, Nat.le_refl _, Nat.le_of_ble_eq_true rfl⟩, ⟨b1.rdI, nine, List.length_replicate, Nat.le_refl _, Nat.le_of_ble_eq_true rfl⟩, ⟨b2.rdI, nine, List.length_replicate, Nat.le_refl _, Nat.le_of_ble_eq_true rfl⟩⟩ _ 0 M rfl (by decide) (hp.trans pB) (Pre.refl M))
  | succ d ih =>
    intro i xs M hd hi bx lx pB b0 b1 b2
    refine Run.cut (Evp.of_eq (fun k => zoetropelaw23_CdefNames.p1048564 k ..) ?_)
    refine Evp.dec (fun _ => ?_) fun h => absurd h (by omega)
    refine Evp.pos (by omega) (Evp.some rfl ?_)
    simp only [Int.toNat_natCast]
    generalize IntKind.i64.wrap ((IntKind.i64.wrap (100 + (Int.tmod (IntKind.i64.wrap ((i : Int) * (i : Int))) 7))) + (IntKind.i64.wrap ((Int.tmod (IntKind.i64.wrap (Int.tdiv (i : Int) 16)) 3) * 2))) = v
    obtain ⟨M3, h1, h2, h3, h4, h5⟩ := b0.st (lo := lo) (i := i) (vs := [.int .u8 (IntKind.u8.wrap v)]) pB (Nat.le_trans hlo hp.len) (by simp; omega)
    refine Evp.some h1 ?_
    rw [setL_one, set_map] at h2
    rw [w64 (by omega), show (i : Int) + 1 = ((i + 1 : Nat) : Int) by omega]
    exact Evp.ret (ih (i + 1) _ M3 (by omega) (by omega) (bx.set i (wrap8 v)) (by simpa using lx) h3 h2 (b1.keep h4 (fun a' e => by cases e; exact n01)) (b2.keep h4 (fun a' e => by cases e; exact n02)))
theorem names_rects (b1 b2 : Nat) (cs1 cs2 : List Value) (c1 : Nat) (M1 : Mem) (hb1 : M1[b1]? = some ⟨.fx, cs1⟩) (hb2 : M1[b2]? = some ⟨.fx, cs2⟩) (f1 : FourAt cs1 0) (f2 : ∀ i, i < 7 → FourAt cs2 (i * 4)) : ∀ (d i : Nat) (M : Mem), 7 - i = d → i ≤ 7 → Pre M0 M → Pre M1 M → Run P T lo F.zoetropelaw23_CdefNames (zoetropelaw23_CdefNames.c65524 (some ⟨b1, 0, none⟩) 11 c1 (some ⟨b2, 0, none⟩) 7 7 i M) fun r => r.1 = .bool true := by
  intro d
  induction d with
  | zero =>
    intro i M hd hi p0 p1
    refine Run.cut (Evp.of_eq (fun k => zoetropelaw23_CdefNames.p65524 k ..) ?_)
    refine Evp.dec (fun h => absurd h (by omega)) fun _ => ?_
    have hl := Nat.le_trans hlo p0.len
    refine Evp.ob (frame_ok lo 16 16 9 M hl (by decide)) ?_
    rintro _ ⟨x0, x1, x2, M2, rfl, p2, bx0, bx1, bx2, _⟩
    simp only [ret_int, ret_bool, ret_flt, ret_slc, ret_str, ret_ptr, ret_agg, ret_tup, ob_some, bb_true, bb_false, List.getElem?_cons_zero, List.getElem?_cons_succ, List.length_cons, List.length_nil, Nat.reduceAdd, Nat.reduceLT]
    refine Evp.ob (frame_ok lo 18 16 9 M2 (Nat.le_trans hl p2.len) (by decide)) ?_
    rintro _ ⟨y0, y1, y2, M3, rfl, p3, by0, by1, by2, _⟩
    simp only [ret_int, ret_bool, ret_flt, ret_slc, ret_str, ret_ptr, ret_agg, ret_tup, ob_some, bb_true, bb_false, List.getElem?_cons_zero, List.getElem?_cons_succ, List.length_cons, List.length_nil, Nat.reduceAdd, Nat.reduceLT]
    have q3 := p2.trans p3
    refine Evp.ob (frame_ok lo 16 16 9 M3 (Nat.le_trans hl q3.len) (by decide)) ?_
    rintro _ ⟨z0, z1, z2, M4, rfl, p4, bz0, bz1, bz2, n01, n02, _⟩
    simp only [ret_int, ret_bool, ret_flt, ret_slc, ret_str, ret_ptr, ret_agg, ret_tup, ob_some, bb_true, bb_false, List.getElem?_cons_zero, List.getElem?_cons_succ, List.length_cons, List.length_nil, Nat.reduceAdd, Nat.reduceLT]
    have nine : ∀ n, Bytes (List.replicate n (9 : Int)) := fun n => Bytes.rep _ (by decide)
    have rp : ∀ n, (List.replicate n (9 : Int)).length = n := fun n => List.length_replicate
    refine Evp.ret (names_paint lo M0 hlo ⟨16, 16, 8, 8, 8, 8, some x0, some x1, some x2, 256, 256, 64, 64, 64, 64, List.replicate 256 9, List.replicate 64 9, List.replicate 64 9⟩ ⟨18, 16, 9, 8, 9, 8, some y0, some y1, some y2, 288, 288, 72, 72, 72, 72, List.replicate 288 9, List.replicate 72 9, List.replicate 72 9⟩ M3 (p0.trans q3) ?_ ?_ z0 z1 z2 n01 n02 256 0 (List.replicate 256 9) M4 rfl (by decide) (nine _) (rp _) p4 bz0 bz1 bz2)
    · exact ⟨⟨(show RdI M2 .u8 (some x0) (List.replicate 256 9) from bx0.rdI).pre p3, nine _, rp _, Nat.le_refl _, Nat.le_of_ble_eq_true rfl⟩, ⟨(show RdI M2 .u8 (some x1) (List.replicate 64 9) from bx1.rdI).pre p3, nine _, rp _, Nat.le_refl _, Nat.le_of_ble_eq_true rfl⟩, ⟨(show RdI M2 .u8 (some x2) (List.replicate 64 9) from bx2.rdI).pre p3, nine _, rp _, Nat.le_refl _, Nat.le_of_ble_eq_true rfl⟩⟩
    · exact ⟨⟨(show RdI M3 .u8 (some y0) (List.replicate 288 9) from by0.rdI), nine _, rp _, Nat.le_refl _, Nat.le_of_ble_eq_true rfl⟩, ⟨(show RdI M3 .u8 (some y1) (List.replicate 72 9) from by1.rdI), nine _, rp _, Nat.le_refl _, Nat.le_of_ble_eq_true rfl⟩, ⟨(show RdI M3 .u8 (some y2) (List.replicate 72 9) from by2.rdI), nine _, rp _, Nat.le_refl _, Nat.le_of_ble_eq_true rfl⟩⟩
  | succ d ih =>
    intro i M hd hi p0 p1
    obtain ⟨x, y, w, h, e0, e1, e2, e3⟩ := f2 i (by omega)
    obtain ⟨u0, u1, u2, u3, d0, d1, d2, d3⟩ := f1
    have hl1 : b1 < M.length := lt_of_get (p1 b1 _ hb1)
    have hl2 : b2 < M.length := lt_of_get (p1 b2 _ hb2)
    have ld2 : ∀ {N : Mem}, Pre M N → ∀ j, N.ld (plus ⟨b2, 0, none⟩ j) = cs2[j]? := fun p j => fx_ldp (p b2 _ (p1 b2 _ hb2)) _
    have ld1 : ∀ {N : Mem}, Pre M N → ∀ j, N.ld (plus ⟨b1, 0, none⟩ j) = cs1[0 + j]? := fun p j => by rw [Nat.zero_add]; exact fx_ldp (p b1 _ (p1 b1 _ hb1)) _
    have ld0 : ∀ {N : Mem}, Pre M N → N.ld ⟨b1, 0, none⟩ = cs1[0]? := fun p => fx_ld (p b1 _ (p1 b1 _ hb1)) 0
    refine Run.cut (Evp.of_eq (fun k => zoetropelaw23_CdefNames.p65524 k ..) ?_)
    refine Evp.dec (fun _ => ?_) fun h => absurd h (by omega)
    refine Evp.ob (usual_ok M.length M) ?_
    rintro _ rfl
    simp only [ret_int, ret_bool, ret_flt, ret_slc, ret_str, ret_ptr, ret_agg, ret_tup, ob_some, bb_true, bb_false, List.getElem?_cons_zero, List.getElem?_cons_succ, List.length_cons, List.length_nil, Nat.reduceAdd, Nat.reduceLT]
    have pu := Pre.app M [⟨.fx, usualL.map (Value.int .u8)⟩]
    have ru : RdI (M ++ [⟨.fx, usualL.map (Value.int .u8)⟩]) .u8 (some ⟨M.length, 0, none⟩) usualL := RdI.lit usualL
    generalize (M ++ [⟨.fx, usualL.map (Value.int .u8)⟩] : Mem) = Mu at *
    refine Evp.pos (by omega) (Evp.some rfl ?_)
    simp only [Int.toNat_natCast, plus_plus, plus_block, if_pos hl2]
    rw [ld2 pu, ld2 pu, ld2 pu, ld2 pu, e0, e1, e2, e3]
    simp only [ret_int, ret_bool, ret_flt, ret_slc, ret_str, ret_ptr, ret_agg, ret_tup, ob_some, bb_true, bb_false, List.getElem?_cons_zero, List.getElem?_cons_succ, List.length_cons, List.length_nil, Nat.reduceAdd, Nat.reduceLT]
    refine Evp.pos (by omega) (Evp.some rfl ?_)
    simp only [plus_block, if_pos hl1]
    rw [ld0 pu, ld1 pu, ld1 pu, ld1 pu, d0, d1, d2, d3]
    simp only [ret_int, ret_bool, ret_flt, ret_slc, ret_str, ret_ptr, ret_agg, ret_tup, ob_some, bb_true, bb_false, List.getElem?_cons_zero, List.getElem?_cons_succ, List.length_cons, List.length_nil, Nat.reduceAdd, Nat.reduceLT]
    refine Evp.ob (blocks_names M.length _ 5 5 usualL 5 1 x y w h u0 u1 u2 u3 Mu pu.len ru (show ∀ x ∈ usualL, 0 ≤ x ∧ x ≤ 255 by decide) rfl (by decide)) ?_
    rintro _ ⟨M2, rfl, p2⟩
    simp only [ret_int, ret_bool, ret_flt, ret_slc, ret_str, ret_ptr, ret_agg, ret_tup, ob_some, bb_true, bb_false, List.getElem?_cons_zero, List.getElem?_cons_succ, List.length_cons, List.length_nil, Nat.reduceAdd, Nat.reduceLT]
    have q2 := pu.trans p2
    refine Evp.ff rfl (Evp.pos (by omega) (Evp.some rfl ?_))
    rw [ld2 q2, ld2 q2, ld2 q2, ld2 q2, e0, e1, e2, e3]
    simp only [ret_int, ret_bool, ret_flt, ret_slc, ret_str, ret_ptr, ret_agg, ret_tup, ob_some, bb_true, bb_false, List.getElem?_cons_zero, List.getElem?_cons_succ, List.length_cons, List.length_nil, Nat.reduceAdd, Nat.reduceLT]
    refine Evp.pos (by omega) (Evp.some rfl ?_)
    rw [ld0 q2, ld1 q2, ld1 q2, ld1 q2, d0, d1, d2, d3]
    simp only [ret_int, ret_bool, ret_flt, ret_slc, ret_str, ret_ptr, ret_agg, ret_tup, ob_some, bb_true, bb_false, List.getElem?_cons_zero, List.getElem?_cons_succ, List.length_cons, List.length_nil, Nat.reduceAdd, Nat.reduceLT]
    refine Evp.ob (blocks_names M.length none 0 0 [] 0 0 x y w h u0 u1 u2 u3 M2 q2.len RdI.nil (fun _ h => by cases h) rfl (by decide)) ?_
    rintro _ ⟨M3, rfl, p3⟩
    simp only [ret_int, ret_bool, ret_flt, ret_slc, ret_str, ret_ptr, ret_agg, ret_tup, ob_some, bb_true, bb_false, List.getElem?_cons_zero, List.getElem?_cons_succ, List.length_cons, List.length_nil, Nat.reduceAdd, Nat.reduceLT]
    refine Evp.ff rfl ?_
    rw [w64 (by omega), show (i : Int) + 1 = ((i + 1 : Nat) : Int) by omega]
    have q3 := q2.trans p3
    exact Evp.ret (ih (i + 1) M3 (by omega) (by omega) (p0.trans q3) (p1.trans q3))
theorem names_hows (b : Nat) (cs : List Value) (M1 : Mem) (hb : M1[b]? = some ⟨.fx, cs⟩) (fs : ∀ i, i < 11 → FourAt cs (i * 4)) : ∀ (d i : Nat) (M : Mem), 11 - i = d → i ≤ 11 → Pre M0 M → Pre M1 M → Run P T lo F.zoetropelaw23_CdefNames (zoetropelaw23_CdefNames.c16372 (some ⟨b, 0, none⟩) 11 11 i 0 0 5 1 M) fun r => r.1 = .bool true := by
  intro d
  induction d with
  | zero =>
    intro i M hd hi p0 p1
    refine Run.cut (Evp.of_eq (fun k => zoetropelaw23_CdefNames.p16372 k ..) ?_)
    refine Evp.dec (fun h => absurd h (by omega)) fun _ => ?_
    refine Evp.ret (names_rects lo M0 hlo b _ cs _ 11 _ (get_push (p1 b _ hb)) (push_self M _) (fs 0 (by decide)) (fun i hi => ?_) _ 0 _ rfl (by decide) (p0.trans (Pre.app _ _)) (Pre.refl _))
    match i, hi with
    | 0, _ => exact ⟨_, _, _, _, rfl, rfl, rfl, rfl⟩
    | 1, _ => exact ⟨_, _, _, _, rfl, rfl, rfl, rfl⟩
    | 2, _ => exact ⟨_, _, _, _, rfl, rfl, rfl, rfl⟩
    | 3, _ => exact ⟨_, _, _, _, rfl, rfl, rfl, rfl⟩
    | 4, _ => exact ⟨_, _, _, _, rfl, rfl, rfl, rfl⟩
    | 5, _ => exact ⟨_, _, _, _, rfl, rfl, rfl, rfl⟩
    | 6, _ => exact ⟨_, _, _, _, rfl, rfl, rfl, rfl⟩
  | succ d ih =>
    intro i M hd hi p0 p1
    obtain ⟨u0, u1, u2, u3, d0, d1, d2, d3⟩ := fs i (by omega)
    have hl1 : b < M.length := lt_of_get (p1 b _ hb)
    have ld : ∀ {N : Mem}, Pre M N → ∀ j, N.ld (plus ⟨b, 0, none⟩ j) = cs[j]? := fun p j => fx_ldp (p b _ (p1 b _ hb)) _
    refine Run.cut (Evp.of_eq (fun k => zoetropelaw23_CdefNames.p16372 k ..) ?_)
    refine Evp.dec (fun _ => ?_) fun h => absurd h (by omega)
    refine Evp.ob (usual_ok M.length M) ?_
    rintro _ rfl
    simp only [ret_int, ret_bool, ret_flt, ret_slc, ret_str, ret_ptr, ret_agg, ret_tup, ob_some, bb_true, bb_false, List.getElem?_cons_zero, List.getElem?_cons_succ, List.length_cons, List.length_nil, Nat.reduceAdd, Nat.reduceLT]
    have pu := Pre.app M [⟨.fx, usualL.map (Value.int .u8)⟩]
    have ru : RdI (M ++ [⟨.fx, usualL.map (Value.int .u8)⟩]) .u8 (some ⟨M.length, 0, none⟩) usualL := RdI.lit usualL
    generalize (M ++ [⟨.fx, usualL.map (Value.int .u8)⟩] : Mem) = Mu at *
    refine Evp.pos (by omega) (Evp.some rfl ?_)
    simp only [Int.toNat_natCast, plus_plus, plus_block, if_pos hl1]
    rw [ld pu, ld pu, ld pu, ld pu, d0, d1, d2, d3]
    simp only [ret_int, ret_bool, ret_flt, ret_slc, ret_str, ret_ptr, ret_agg, ret_tup, ob_some, bb_true, bb_false, List.getElem?_cons_zero, List.getElem?_cons_succ, List.length_cons, List.length_nil, Nat.reduceAdd, Nat.reduceLT]
    refine Evp.ob (blocks_names M.length _ 5 5 usualL 5 1 0 0 5 1 u0 u1 u2 u3 Mu pu.len ru (show ∀ x ∈ usualL, 0 ≤ x ∧ x ≤ 255 by decide) rfl (by decide)) ?_
    rintro _ ⟨M2, rfl, p2⟩
    simp only [ret_int, ret_bool, ret_flt, ret_slc, ret_str, ret_ptr, ret_agg, ret_tup, ob_some, bb_true, bb_false, List.getElem?_cons_zero, List.getElem?_cons_succ, List.length_cons, List.length_nil, Nat.reduceAdd, Nat.reduceLT]
    refine Evp.ff rfl ?_
    rw [w64 (by omega), show (i : Int) + 1 = ((i + 1 : Nat) : Int) by omega]
    have q2 := pu.trans p2
    exact Evp.ret (ih (i + 1) M2 (by omega) (by omega) (p0.trans q2) (p1.trans q2))
theorem names_lims (b : Nat) (cs : List Value) (M1 : Mem) (hb : M1[b]? = some ⟨.fx, cs⟩) (fs : ∀ i, i < 6 → ThreeAt cs (i * 3)) : ∀ (d i : Nat) (M : Mem), 6 - i = d → i ≤ 6 → Pre M0 M → Pre M1 M → Run P T lo F.zoetropelaw23_CdefNames (zoetropelaw23_CdefNames.c2036 (some ⟨b, 0, none⟩) 6 6 i M) fun r => r.1 = .bool true := by
  intro d
  induction d with
  | zero =>
    intro i M hd hi p0 p1
    refine Run.cut (Evp.of_eq (fun k => zoetropelaw23_CdefNames.p2036 k ..) ?_)
    refine Evp.dec (fun h => absurd h (by omega)) fun _ => ?_
    refine Evp.ret (names_hows lo M0 hlo _ _ _ (push_self M _) (fun i hi => ?_) _ 0 _ rfl (by decide) (p0.trans (Pre.app _ _)) (Pre.refl _))
    match i, hi with
    | 0, _ => exact ⟨_, _, _, _, rfl, rfl, rfl, rfl⟩
    | 1, _ => exact ⟨_, _, _, _, rfl, rfl, rfl, rfl⟩
    | 2, _ => exact ⟨_, _, _, _, rfl, rfl, rfl, rfl⟩
    | 3, _ => exact ⟨_, _, _, _, rfl, rfl, rfl, rfl⟩
    | 4, _ => exact ⟨_, _, _, _, rfl, rfl, rfl, rfl⟩
    | 5, _ => exact ⟨_, _, _, _, rfl, rfl, rfl, rfl⟩
    | 6, _ => exact ⟨_, _, _, _, rfl, rfl, rfl, rfl⟩
    | 7, _ => exact ⟨_, _, _, _, rfl, rfl, rfl, rfl⟩
    | 8, _ => exact ⟨_, _, _, _, rfl, rfl, rfl, rfl⟩
    | 9, _ => exact ⟨_, _, _, _, rfl, rfl, rfl, rfl⟩
    | 10, _ => exact ⟨_, _, _, _, rfl, rfl, rfl, rfl⟩
  | succ d ih =>
    intro i M hd hi p0 p1
    obtain ⟨u0, u1, u2, d0, d1, d2⟩ := fs i (by omega)
    have hl1 : b < M.length := lt_of_get (p1 b _ hb)
    have ld : ∀ {N : Mem}, Pre M N → ∀ j, N.ld (plus ⟨b, 0, none⟩ j) = cs[j]? := fun p j => fx_ldp (p b _ (p1 b _ hb)) _
    refine Run.cut (Evp.of_eq (fun k => zoetropelaw23_CdefNames.p2036 k ..) ?_)
    refine Evp.dec (fun _ => ?_) fun h => absurd h (by omega)
    refine Evp.ob (stripes_ok M.length true 9 200 M (Nat.le_refl _)) ?_
    rintro _ ⟨A, c, M2, rfl, p2, r2⟩
    simp only [ret_int, ret_bool, ret_flt, ret_slc, ret_str, ret_ptr, ret_agg, ret_tup, ob_some, bb_true, bb_false, List.getElem?_cons_zero, List.getElem?_cons_succ, List.length_cons, List.length_nil, Nat.reduceAdd, Nat.reduceLT]
    refine Evp.pos (by omega) (Evp.some rfl ?_)
    simp only [Int.toNat_natCast, plus_plus, plus_block, if_pos hl1]
    rw [ld p2, ld p2, ld p2, d0, d1, d2]
    simp only [ret_int, ret_bool, ret_flt, ret_slc, ret_str, ret_ptr, ret_agg, ret_tup, ob_some, bb_true, bb_false, List.getElem?_cons_zero, List.getElem?_cons_succ, List.length_cons, List.length_nil, Nat.reduceAdd, Nat.reduceLT]
    refine Evp.ob (directions_ok M.length A c 64 _ u0 u1 u2 M2 p2.len r2 (stripe_bytes (by decide) (by decide) 64) (stripe_len ..) (by decide)) ?_
    rintro _ ⟨M3, rfl, p3⟩
    simp only [ret_int, ret_bool, ret_flt, ret_slc, ret_str, ret_ptr, ret_agg, ret_tup, ob_some, bb_true, bb_false, List.getElem?_cons_zero, List.getElem?_cons_succ, List.length_cons, List.length_nil, Nat.reduceAdd, Nat.reduceLT]
    have q3 := p2.trans p3
    refine Evp.ff rfl (Evp.pos (by omega) (Evp.some rfl ?_))
    rw [ld q3, d0]
    simp only [ret_int, ret_bool, ret_flt, ret_slc, ret_str, ret_ptr, ret_agg, ret_tup, ob_some, bb_true, bb_false, List.getElem?_cons_zero, List.getElem?_cons_succ, List.length_cons, List.length_nil, Nat.reduceAdd, Nat.reduceLT]
    refine Evp.pos (by omega) (Evp.some rfl ?_)
    rw [ld q3, d1]
    simp only [ret_int, ret_bool, ret_flt, ret_slc, ret_str, ret_ptr, ret_agg, ret_tup, ob_some, bb_true, bb_false, List.getElem?_cons_zero, List.getElem?_cons_succ, List.length_cons, List.length_nil, Nat.reduceAdd, Nat.reduceLT]
    refine Evp.pos (by omega) (Evp.some rfl ?_)
    rw [ld q3, d2]
    simp only [ret_int, ret_bool, ret_flt, ret_slc, ret_str, ret_ptr, ret_agg, ret_tup, ob_some, bb_true, bb_false, List.getElem?_cons_zero, List.getElem?_cons_succ, List.length_cons, List.length_nil, Nat.reduceAdd, Nat.reduceLT]
    refine Evp.ob (limits_ok M.length u0 u1 u2 M3 q3.len) ?_
    rintro _ ⟨M4, rfl, p4⟩
    simp only [ret_int, ret_bool, ret_flt, ret_slc, ret_str, ret_ptr, ret_agg, ret_tup, ob_some, bb_true, bb_false, List.getElem?_cons_zero, List.getElem?_cons_succ, List.length_cons, List.length_nil, Nat.reduceAdd, Nat.reduceLT]
    refine Evp.ff rfl ?_
    rw [w64 (by omega), show (i : Int) + 1 = ((i + 1 : Nat) : Int) by omega]
    have q4 := q3.trans p4
    exact Evp.ret (ih (i + 1) M4 (by omega) (by omega) (p0.trans q4) (p1.trans q4))
end
theorem CdefNames_law (M : Mem) (vs : List Value) (hro : AllRo M) (hv : LaysArgs P M [] vs) : Ac P T M.length F.zoetropelaw23_CdefNames vs M fun r => r.1 = .bool true := by
  obtain rfl := Arg.CdefNames hv
  refine Ac.of (Evp.of_eq (fun k => zoetropelaw23_CdefNames.entry k ..) ?_)
  refine Evp.pos (by decide) ?_
  have z : ∀ n, zerosL [.int .u8 0] n = (List.replicate n (0 : Int)).map (Value.int .u8) := fun n => by rw [zerosL_one, List.map_replicate]
  have zb : ∀ n, Bytes (List.replicate n (0 : Int)) := fun n => Bytes.rep n (by decide)
  have zl : ∀ n, (List.replicate n (0 : Int)).length = n := fun n => List.length_replicate
  have dir : ∀ (A : Option Addr) (c n : Nat) (b : List Int) (N : Mem), RdI N .u8 A b → Bytes b → b.length = n → Ac P T M.length F.cdef_Direction [.slice A n c] N (DirR b N) := fun A c n b N hx bb hn => by subst hn; exact direction_ok M.length A c b N hx bb
  rw [z, z]
  refine Evp.ob (dir _ 64 64 _ _ (RdI.lit (List.replicate 64 0)) (zb _) (zl _)) ?_
  intro r hr
  unfold DirR at hr
  rw [if_pos (zl _)] at hr
  have b0 : bestD (List.replicate 64 (0 : Int)) 8 = 0 := by decide +kernel
  have t0 : strD (List.replicate 64 (0 : Int)) = 0 := by decide +kernel
  rw [b0, t0] at hr
  subst hr
  simp only [ret_int, ret_bool, ret_flt, ret_slc, ret_str, ret_ptr, ret_agg, ret_tup, ob_some, bb_true, bb_false, List.getElem?_cons_zero, List.getElem?_cons_succ, List.length_cons, List.length_nil, Nat.reduceAdd, Nat.reduceLT]
  have p1 := Pre.app M [⟨.fx, (List.replicate 64 (0 : Int)).map (Value.int .u8)⟩]
  generalize (M ++ [⟨.fx, (List.replicate 64 (0 : Int)).map (Value.int .u8)⟩] : Mem) = N1 at *
  refine Evp.pos (by decide) ?_
  refine Evp.ob (dir _ 63 63 _ _ (RdI.lit (List.replicate 63 0)) (zb _) (zl _)) ?_
  intro r hr
  unfold DirR at hr
  rw [if_neg (by rw [zl]; decide)] at hr
  subst hr
  simp only [ret_int, ret_bool, ret_flt, ret_slc, ret_str, ret_ptr, ret_agg, ret_tup, ob_some, bb_true, bb_false, List.getElem?_cons_zero, List.getElem?_cons_succ, List.length_cons, List.length_nil, Nat.reduceAdd, Nat.reduceLT]
  have p2 := p1.trans (Pre.app N1 [⟨.fx, (List.replicate 63 (0 : Int)).map (Value.int .u8)⟩])
  generalize (N1 ++ [⟨.fx, (List.replicate 63 (0 : Int)).map (Value.int .u8)⟩] : Mem) = N2 at *
  refine Evp.ob (dir none 0 0 [] _ RdI.nil (fun _ h => by cases h) rfl) ?_
  intro r hr
  unfold DirR at hr
  rw [if_neg (by decide)] at hr
  subst hr
  simp only [ret_int, ret_bool, ret_flt, ret_slc, ret_str, ret_ptr, ret_agg, ret_tup, ob_some, bb_true, bb_false, List.getElem?_cons_zero, List.getElem?_cons_succ, List.length_cons, List.length_nil, Nat.reduceAdd, Nat.reduceLT]
  refine Evp.neb (fun e => absurd rfl e) fun _ => Evp.neb (fun e => absurd rfl e) fun _ => Evp.neb (fun e => absurd rfl e) fun _ => Evp.neb (fun e => absurd rfl e) fun _ => Evp.neb (fun e => absurd rfl e) fun _ => ?_
  refine Evp.ob (limit_ok M.length 20 8 3 N2) ?_
  rintro _ rfl
  simp only [ret_int, ret_bool, ret_flt, ret_slc, ret_str, ret_ptr, ret_agg, ret_tup, ob_some, bb_true, bb_false, List.getElem?_cons_zero, List.getElem?_cons_succ, List.length_cons, List.length_nil, Nat.reduceAdd, Nat.reduceLT]
  refine Evp.neb (fun e => absurd (by decide +kernel) e) fun _ => ?_
  refine Evp.ob (limit_ok M.length 5 0 5 N2) ?_
  rintro _ rfl
  simp only [ret_int, ret_bool, ret_flt, ret_slc, ret_str, ret_ptr, ret_agg, ret_tup, ob_some, bb_true, bb_false, List.getElem?_cons_zero, List.getElem?_cons_succ, List.length_cons, List.length_nil, Nat.reduceAdd, Nat.reduceLT]
  refine Evp.neb (fun e => absurd (by decide +kernel) e) fun _ => ?_
  refine Evp.ret (names_lims M.length M (Nat.le_refl _) _ _ _ (push_self N2 _) (fun i hi => ?_) _ 0 _ rfl (by decide) (p2.trans (Pre.app _ _)) (Pre.refl _))
  match i, hi with
  | 0, _ => exact ⟨_, _, _, rfl, rfl, rfl⟩
  | 1, _ => exact ⟨_, _, _, rfl, rfl, rfl⟩
  | 2, _ => exact ⟨_, _, _, rfl, rfl, rfl⟩
  | 3, _ => exact ⟨_, _, _, rfl, rfl, rfl⟩
  | 4, _ => exact ⟨_, _, _, rfl, rfl, rfl⟩
  | 5, _ => exact ⟨_, _, _, rfl, rfl, rfl⟩
end Go.Zt
