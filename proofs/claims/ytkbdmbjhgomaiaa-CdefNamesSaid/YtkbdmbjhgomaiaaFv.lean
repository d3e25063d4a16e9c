/- CdefNames (printed by genv.py). -/
import Derived.Test.YtkbdmbjhgomaiaaFt
set_option linter.unusedVariables false
set_option linter.unusedSimpArgs false
set_option maxRecDepth 100000
namespace Go.Zt
theorem wrap8 (x : Int) : 0 ≤ IntKind.u8.wrap x ∧ IntKind.u8.wrap x ≤ 255 := by rw [IntKind.wrap_u8]; omega
theorem Bytes.set {xs : List Int} (b : Bytes xs) (i : Nat) {v : Int} (hv : 0 ≤ v ∧ v ≤ 255) : Bytes (xs.set i v) := fun x hx => by
  rcases List.mem_or_eq_of_mem_set hx with h | rfl
  · exact b x h
  · exact hv
theorem Bytes.rep (n : Nat) {v : Int} (hv : 0 ≤ v ∧ v ≤ 255) : Bytes (List.replicate n v) := fun x hx => by rw [(List.mem_replicate.1 hx).2]; exact hv
def FourAt (cs : List Value) (o : Nat) : Prop := ∃ a b c d : Int, cs[o]? = some (.int .i64 a) ∧ cs[o + 1]? = some (.int .i64 b) ∧ cs[o + 2]? = some (.int .i64 c) ∧ cs[o + 3]? = some (.int .i64 d)
def ThreeAt (cs : List Value) (o : Nat) : Prop := ∃ a b c : Int, cs[o]? = some (.int .i64 a) ∧ cs[o + 1]? = some (.int .i64 b) ∧ cs[o + 2]? = some (.int .i64 c)
def HeadAt (cs : List Value) (M : Mem) (o : Nat) : Prop := ∃ (hd : Hd) (L : List Int), HdAt cs o hd ∧ Rd M hd.A hd.n 4 (L.map (Value.int .i64))
theorem noQ {M : Mem} : (Fq.mk 0 0 0 0 0 0 none none none 0 0 0 0 0 0 [] [] []).Ok M :=
  have n : PlOk M none 0 0 [] := ⟨RdI.nil, (fun _ h => by cases h), rfl, Nat.le_refl _, by decide⟩
  ⟨n, n, n⟩
section
variable (lo : Nat) (M0 : Mem) (hlo : lo ≤ M0.length)
include hlo
theorem names_end (M : Mem) (p0 : Pre M0 M) (A : Option Addr) (c : Nat) (i : Int) (hi : 9 ≤ i) (x y : Fq) : Run P T lo F.zoetropelaw23_CdefNames (zoetropelaw23_CdefNames.c8388596 A 9 c i x.w0 x.h0 x.A0 x.n0 x.c0 x.w1 x.h1 x.A1 x.n1 x.c1 x.w2 x.h2 x.A2 x.n2 x.c2 y.w0 y.h0 y.A0 y.n0 y.c0 y.w1 y.h1 y.A1 y.n1 y.c1 y.w2 y.h2 y.A2 y.n2 y.c2 M) fun r => r.1 = .bool true := by
  refine Run.cut (Evp.of_eq (fun k => zoetropelaw23_CdefNames.p8388596 k ..) ?_)
  refine Evp.dec (fun h => absurd h (by omega)) fun _ => ?_
  refine Evp.ob (awake_ok lo M (Nat.le_trans hlo p0.len)) ?_
  rintro _ ⟨M3, rfl, p3⟩
  simp only [ret_int, ret_bool, ret_flt, ret_slc, ret_str, ret_ptr, ret_agg, ret_tup, ob_some, bb_true, bb_false, List.getElem?_cons_zero, List.getElem?_cons_succ, List.length_cons, List.length_nil, Nat.reduceAdd, Nat.reduceLT]
  exact Evp.ret (Run.ret rfl)
theorem names_heads (b : Nat) (cs : List Value) (M1 : Mem) (hb : M1[b]? = some ⟨.fx, cs⟩) (x y : Fq) (hx : x.Ok M1) (hy : y.Ok M1) (hh : ∀ i, i < 9 → HeadAt cs M1 (i * 30)) : ∀ (d i : Nat) (M : Mem), 9 - i = d → i ≤ 9 → Pre M0 M → Pre M1 M → Run P T lo F.zoetropelaw23_CdefNames (zoetropelaw23_CdefNames.c8388596 (some ⟨b, 0, none⟩) 9 9 i x.w0 x.h0 x.A0 x.n0 x.c0 x.w1 x.h1 x.A1 x.n1 x.c1 x.w2 x.h2 x.A2 x.n2 x.c2 y.w0 y.h0 y.A0 y.n0 y.c0 y.w1 y.h1 y.A1 y.n1 y.c1 y.w2 y.h2 y.A2 y.n2 y.c2 M) fun r => r.1 = .bool true := by
  intro d
  induction d with
  | zero =>
    intro i M hd hi p0 p1
    exact names_end lo M0 hlo M p0 _ _ i (by omega) x y
  | succ d ih =>
    intro i M hd' hi p0 p1
    obtain ⟨hd, L, hat, hL⟩ := hh i (by omega)
    have ld : ∀ {N : Mem}, Pre M N → ∀ j, j < 30 → N.ld (plus ⟨b, 0, none⟩ (i * 30 + j)) = hd.cells[j]? := fun p j hj => by rw [fx_ldp (p b _ (p1 b _ hb)), hat.get j hj]
    have hbl : (⟨b, 0, none⟩ : Addr).block < M.length := lt_of_get (p1 b _ hb)
    have s0 : Slots M (M ++ [⟨.op 0, []⟩, ⟨.op 0, []⟩, ⟨.op 0, []⟩, ⟨.op 0, []⟩, ⟨.op 0, []⟩, ⟨.op 0, []⟩, ⟨.op 0, []⟩, ⟨.op 0, []⟩]) 0 8 := Slots.init (n := 8)
    refine Run.cut (Evp.of_eq (fun k => zoetropelaw23_CdefNames.p8388596 k ..) ?_)
    refine Evp.dec (fun _ => ?_) fun h => absurd h (by omega)
    generalize (M ++ [⟨.op 0, []⟩, ⟨.op 0, []⟩, ⟨.op 0, []⟩, ⟨.op 0, []⟩, ⟨.op 0, []⟩, ⟨.op 0, []⟩, ⟨.op 0, []⟩, ⟨.op 0, []⟩] : Mem) = N0 at *
    refine Evp.pos (by decide) ?_
    obtain ⟨N1, e1, s1, g1, k1⟩ := s0.fill (i := M.length) (z := 1) (cs := zerosL [.bool false] 4) (lo := M.length) (by decide) rfl (Nat.le_refl _) (by decide) (by decide)
    refine Evp.some e1 ?_
    try simp only []
    obtain ⟨N2, e2, s2, g2, k2⟩ := s1.fill (i := M.length + 1) (z := 1) (cs := [.int .i64 0]) (lo := M.length) (by decide) rfl (Nat.le_refl _) (by decide) (by decide)
    refine Evp.some e2 ?_
    try simp only []
    refine Evp.pos (by omega) (Evp.some rfl ?_)
    try simp only [Int.toNat_natCast]
    refine hd_ldg hbl (ld s2.pre) ?_
    try simp only []
    refine Evp.ob (frames_names M.length x.w0 x.h0 x.w1 x.h1 x.w2 x.h2 x.A0 x.A1 x.A2 x.n0 x.c0 x.n1 x.c1 x.n2 x.c2 x.xs x.ys x.zs _ _ 4 4 1 1 (List.replicate 4 false) [0] hd L N2 s2.pre.len (hx.pre (p1.trans s2.pre)) (op_rd (n := 4) (w := 1) (cs := zerosL [.bool false] 4) ((k2 _ (Nat.lt_succ_self _)).trans g1) rfl) rfl (by decide) (op_rd (n := 1) (w := 1) (cs := [.int .i64 0]) g2 rfl) rfl (by decide) (hL.pre (p1.trans s2.pre))) ?_
    rintro _ ⟨N3, rfl, q3⟩
    simp only [ret_int, ret_bool, ret_flt, ret_slc, ret_str, ret_ptr, ret_agg, ret_tup, ob_some, bb_true, bb_false, List.getElem?_cons_zero, List.getElem?_cons_succ, List.length_cons, List.length_nil, Nat.reduceAdd, Nat.reduceLT]
    have s3 := s2.go q3
    refine Evp.ff rfl ?_
    refine Evp.pos (by decide) ?_
    obtain ⟨N4, e4, s4, g4, k4⟩ := s3.fill (i := M.length + 1 + 1) (z := 1) (cs := zerosL [.bool false] 4) (lo := M.length) (by decide) rfl (Nat.le_refl _) (by decide) (by decide)
    refine Evp.some e4 ?_
    try simp only []
    obtain ⟨N5, e5, s5, g5, k5⟩ := s4.fill (i := M.length + 1 + 1 + 1) (z := 1) (cs := [.int .i64 1]) (lo := M.length) (by decide) rfl (Nat.le_refl _) (by decide) (by decide)
    refine Evp.some e5 ?_
    try simp only []
    refine Evp.pos (by omega) (Evp.some rfl ?_)
    try simp only [Int.toNat_natCast]
    refine hd_ldg hbl (ld s5.pre) ?_
    try simp only []
    refine Evp.ob (frames_names M.length x.w0 x.h0 x.w1 x.h1 x.w2 x.h2 x.A0 x.A1 x.A2 x.n0 x.c0 x.n1 x.c1 x.n2 x.c2 x.xs x.ys x.zs _ _ 4 4 1 1 (List.replicate 4 false) [1] hd L N5 s5.pre.len (hx.pre (p1.trans s5.pre)) (op_rd (n := 4) (w := 1) (cs := zerosL [.bool false] 4) ((k5 _ (Nat.lt_succ_self _)).trans g4) rfl) rfl (by decide) (op_rd (n := 1) (w := 1) (cs := [.int .i64 1]) g5 rfl) rfl (by decide) (hL.pre (p1.trans s5.pre))) ?_
    rintro _ ⟨N6, rfl, q6⟩
    simp only [ret_int, ret_bool, ret_flt, ret_slc, ret_str, ret_ptr, ret_agg, ret_tup, ob_some, bb_true, bb_false, List.getElem?_cons_zero, List.getElem?_cons_succ, List.length_cons, List.length_nil, Nat.reduceAdd, Nat.reduceLT]
    have s6 := s5.go q6
    refine Evp.ff rfl ?_
    refine Evp.pos (by decide) ?_
    obtain ⟨N7, e7, s7, g7, k7⟩ := s6.fill (i := M.length + 1 + 1 + 1 + 1) (z := 1) (cs := zerosL [.bool false] 3) (lo := M.length) (by decide) rfl (Nat.le_refl _) (by decide) (by decide)
    refine Evp.some e7 ?_
    try simp only []
    obtain ⟨N8, e8, s8, g8, k8⟩ := s7.fill (i := M.length + 1 + 1 + 1 + 1 + 1) (z := 1) (cs := [.int .i64 0]) (lo := M.length) (by decide) rfl (Nat.le_refl _) (by decide) (by decide)
    refine Evp.some e8 ?_
    try simp only []
    refine Evp.pos (by omega) (Evp.some rfl ?_)
    try simp only [Int.toNat_natCast]
    refine hd_ldg hbl (ld s8.pre) ?_
    try simp only []
    refine Evp.ob (frames_names M.length x.w0 x.h0 x.w1 x.h1 x.w2 x.h2 x.A0 x.A1 x.A2 x.n0 x.c0 x.n1 x.c1 x.n2 x.c2 x.xs x.ys x.zs _ _ 3 3 1 1 (List.replicate 3 false) [0] hd L N8 s8.pre.len (hx.pre (p1.trans s8.pre)) (op_rd (n := 3) (w := 1) (cs := zerosL [.bool false] 3) ((k8 _ (Nat.lt_succ_self _)).trans g7) rfl) rfl (by decide) (op_rd (n := 1) (w := 1) (cs := [.int .i64 0]) g8 rfl) rfl (by decide) (hL.pre (p1.trans s8.pre))) ?_
    rintro _ ⟨N9, rfl, q9⟩
    simp only [ret_int, ret_bool, ret_flt, ret_slc, ret_str, ret_ptr, ret_agg, ret_tup, ob_some, bb_true, bb_false, List.getElem?_cons_zero, List.getElem?_cons_succ, List.length_cons, List.length_nil, Nat.reduceAdd, Nat.reduceLT]
    have s9 := s8.go q9
    refine Evp.ff rfl ?_
    refine Evp.pos (by decide) (Evp.pos (by omega) (Evp.some rfl ?_))
    have u10 := Pre.app N9 [⟨.fx, zerosL [.bool false] 4⟩]
    have s10 := s9.go u10
    have RQ : RdB (N9 ++ [⟨.fx, zerosL [.bool false] 4⟩]) (some ⟨N9.length, 0, none⟩) (List.replicate 4 false) := RdB.lit (List.replicate 4 false)
    refine hd_ldg hbl (ld s10.pre) ?_
    try simp only []
    refine Evp.ob (frames_names M.length x.w0 x.h0 x.w1 x.h1 x.w2 x.h2 x.A0 x.A1 x.A2 x.n0 x.c0 x.n1 x.c1 x.n2 x.c2 x.xs x.ys x.zs _ _ 4 4 0 0 (List.replicate 4 false) [] hd L _ s10.pre.len (hx.pre (p1.trans s10.pre)) RQ rfl (by decide) RdI.nil rfl (by decide) (hL.pre (p1.trans s10.pre))) ?_
    rintro _ ⟨N11, rfl, q11⟩
    simp only [ret_int, ret_bool, ret_flt, ret_slc, ret_str, ret_ptr, ret_agg, ret_tup, ob_some, bb_true, bb_false, List.getElem?_cons_zero, List.getElem?_cons_succ, List.length_cons, List.length_nil, Nat.reduceAdd, Nat.reduceLT]
    have s11 := s10.go q11
    refine Evp.ff rfl ?_
    refine Evp.pos (by decide) ?_
    obtain ⟨N12, e12, s12, g12, k12⟩ := s11.fill (i := M.length + 1 + 1 + 1 + 1 + 1 + 1) (z := 1) (cs := zerosL [.bool false] 4) (lo := M.length) (by decide) rfl (Nat.le_refl _) (by decide) (by decide)
    refine Evp.some e12 ?_
    try simp only []
    obtain ⟨N13, e13, s13, g13, k13⟩ := s12.fill (i := M.length + 1 + 1 + 1 + 1 + 1 + 1 + 1) (z := 1) (cs := [.int .i64 (-1)]) (lo := M.length) (by decide) rfl (Nat.le_refl _) (by decide) (by decide)
    refine Evp.some e13 ?_
    try simp only []
    refine Evp.pos (by omega) (Evp.some rfl ?_)
    try simp only [Int.toNat_natCast]
    refine hd_ldg hbl (ld s13.pre) ?_
    try simp only []
    refine Evp.ob (frames_names M.length y.w0 y.h0 y.w1 y.h1 y.w2 y.h2 y.A0 y.A1 y.A2 y.n0 y.c0 y.n1 y.c1 y.n2 y.c2 y.xs y.ys y.zs _ _ 4 4 1 1 (List.replicate 4 false) [(-1)] hd L N13 s13.pre.len (hy.pre (p1.trans s13.pre)) (op_rd (n := 4) (w := 1) (cs := zerosL [.bool false] 4) ((k13 _ (Nat.lt_succ_self _)).trans g12) rfl) rfl (by decide) (op_rd (n := 1) (w := 1) (cs := [.int .i64 (-1)]) g13 rfl) rfl (by decide) (hL.pre (p1.trans s13.pre))) ?_
    rintro _ ⟨N14, rfl, q14⟩
    simp only [ret_int, ret_bool, ret_flt, ret_slc, ret_str, ret_ptr, ret_agg, ret_tup, ob_some, bb_true, bb_false, List.getElem?_cons_zero, List.getElem?_cons_succ, List.length_cons, List.length_nil, Nat.reduceAdd, Nat.reduceLT]
    have s14 := s13.go q14
    refine Evp.ff rfl ?_
    refine Evp.pos (by omega) (Evp.some rfl ?_)
    refine hd_ld (ld s14.pre) ?_
    try simp only []
    refine Evp.ob (frames_names M.length 0 0 0 0 0 0 none none none 0 0 0 0 0 0 [] [] [] none none 0 0 0 0 [] [] hd L N14 s14.pre.len noQ Rd.zero rfl (by decide) RdI.nil rfl (by decide) (hL.pre (p1.trans s14.pre))) ?_
    rintro _ ⟨N15, rfl, q15⟩
    simp only [ret_int, ret_bool, ret_flt, ret_slc, ret_str, ret_ptr, ret_agg, ret_tup, ob_some, bb_true, bb_false, List.getElem?_cons_zero, List.getElem?_cons_succ, List.length_cons, List.length_nil, Nat.reduceAdd, Nat.reduceLT]
    refine Evp.ff rfl ?_
    rw [w64 (by omega), show (i : Int) + 1 = ((i + 1 : Nat) : Int) by omega]
    have v := s14.pre.trans q15
    exact Evp.ret (ih (i + 1) N15 (by omega) (by omega) (p0.trans v) (p1.trans v))
end
end Go.Zt
