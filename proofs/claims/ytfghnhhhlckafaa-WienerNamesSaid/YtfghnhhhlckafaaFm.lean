/- WienerNames. -/
import Derived.Test.YtfghnhhhlckafaaFl
set_option linter.unusedVariables false
set_option linter.unusedSimpArgs false
set_option maxRecDepth 100000
namespace Go.Zt
theorem wtaps_ok (lo : Nat) (u : Un) (M : Mem) (wu : u.wf) : Ac P T lo F.zoetropelaw24_WienerTaps [.agg ⟨[.bool u.on, .int .i64 u.v.a, .int .i64 u.v.b, .int .i64 u.v.c, .int .i64 u.h.a, .int .i64 u.h.b, .int .i64 u.h.c]⟩] M fun r => ∃ M', r = (.bool true, M') ∧ Pre M M' := by
  have k7 : ∀ t : Tp, ∀ {x0 x1 x2 x3 x4 x5 x6 : Int}, sevL t = [x0, x1, x2, x3, x4, x5, x6] → P.keyLits 9 26 [.int .i64 x0, .int .i64 x1, .int .i64 x2, .int .i64 x3, .int .i64 x4, .int .i64 x5, .int .i64 x6] = some ((sevL t).map (Lit.int .i64)) := fun t {x0 x1 x2 x3 x4 x5 x6} e => by
    have := key7 (l := sevL t) (sevL_len t) fun x hx => by have := sevL_le t x hx; omega
    rw [e] at this ⊢
    exact this
  refine Ac.of (Evp.of_eq (fun k => zoetropelaw24_WienerTaps.entry k ..) ?_)
  refine Evp.ob (seven_ok _ u.v M) ?_
  rintro _ ⟨v0, v1, v2, v3, v4, v5, v6, rfl, ev⟩
  simp only [ret_int, ret_bool, ret_flt, ret_slc, ret_str, ret_ptr, ret_agg, ret_tup, ob_some, bb_true, bb_false, List.getElem?_cons_zero, List.getElem?_cons_succ, List.length_cons, List.length_nil, Nat.reduceAdd, Nat.reduceLT]
  refine Evp.ob (rseven_ok _ u.v M) ?_
  rintro _ ⟨u0, u1, u2, u3, u4, u5, u6, rfl, eu⟩
  simp only [ret_int, ret_bool, ret_flt, ret_slc, ret_str, ret_ptr, ret_agg, ret_tup, ob_some, bb_true, bb_false, List.getElem?_cons_zero, List.getElem?_cons_succ, List.length_cons, List.length_nil, Nat.reduceAdd, Nat.reduceLT]
  refine Evp.ob (seven_ok _ u.h M) ?_
  rintro _ ⟨r0, r1, r2, r3, r4, r5, r6, rfl, er⟩
  simp only [ret_int, ret_bool, ret_flt, ret_slc, ret_str, ret_ptr, ret_agg, ret_tup, ob_some, bb_true, bb_false, List.getElem?_cons_zero, List.getElem?_cons_succ, List.length_cons, List.length_nil, Nat.reduceAdd, Nat.reduceLT]
  refine Evp.ob (rseven_ok _ u.h M) ?_
  rintro _ ⟨s0, s1, s2, s3, s4, s5, s6, rfl, es⟩
  simp only [ret_int, ret_bool, ret_flt, ret_slc, ret_str, ret_ptr, ret_agg, ret_tup, ob_some, bb_true, bb_false, List.getElem?_cons_zero, List.getElem?_cons_succ, List.length_cons, List.length_nil, Nat.reduceAdd, Nat.reduceLT]
  refine Evp.ob (wcheck_ok _ u  M wu) ?_
  rintro _ rfl
  simp only [ret_int, ret_bool, ret_flt, ret_slc, ret_str, ret_ptr, ret_agg, ret_tup, ob_some, bb_true, bb_false, List.getElem?_cons_zero, List.getElem?_cons_succ, List.length_cons, List.length_nil, Nat.reduceAdd, Nat.reduceLT]
  refine Evp.ob (rcheckU_ok _ u  M wu) ?_
  rintro _ rfl
  simp only [ret_int, ret_bool, ret_flt, ret_slc, ret_str, ret_ptr, ret_agg, ret_tup, ob_some, bb_true, bb_false, List.getElem?_cons_zero, List.getElem?_cons_succ, List.length_cons, List.length_nil, Nat.reduceAdd, Nat.reduceLT]
  refine Evp.tt (by simp) ?_
  refine Evp.some (k7 _ ev) (Evp.some (k7 _ eu) ?_)
  refine Evp.tt ((sameLits_eq _ _).2 rfl) (Evp.tt (by simp) ?_)
  refine Evp.some (k7 _ er) (Evp.some (k7 _ es) ?_)
  refine Evp.tt ((sameLits_eq _ _).2 rfl) (Evp.tt (by simp) ?_)
  refine Evp.ob (awake_ok M.length M (Nat.le_refl _)) ?_
  rintro _ ⟨M2, rfl, p2⟩
  simp only [ret_int, ret_bool, ret_flt, ret_slc, ret_str, ret_ptr, ret_agg, ret_tup, ob_some, bb_true, bb_false, List.getElem?_cons_zero, List.getElem?_cons_succ, List.length_cons, List.length_nil, Nat.reduceAdd, Nat.reduceLT]
  exact Evp.ret (Run.ret ⟨_, rfl, p2⟩)
/-- Sides of the units' numbers. -/
def listU : List Un := [⟨true, ⟨0, 0, 0⟩, ⟨0, 0, 0⟩⟩, ⟨false, ⟨0, 0, 0⟩, ⟨0, 0, 0⟩⟩, ⟨false, ⟨1, 0, 0⟩, ⟨0, 0, 0⟩⟩, ⟨true, ⟨0, 9, 0⟩, ⟨0, 0, 0⟩⟩, ⟨true, ⟨-5, -23, -17⟩, ⟨10, 8, 46⟩⟩, ⟨true, ⟨0, 0, 0⟩, ⟨11, 0, 0⟩⟩, ⟨true, ⟨0, 0, 0⟩, ⟨-6, 0, 0⟩⟩, ⟨true, ⟨0, 0, 0⟩, ⟨0, -24, 0⟩⟩, ⟨true, ⟨0, 0, 0⟩, ⟨0, 0, -18⟩⟩, ⟨true, ⟨0, 0, 0⟩, ⟨0, 0, 47⟩⟩, ⟨true, ⟨4611686018427387904, 4611686018427387904, 4611686018427387904⟩, ⟨0, 0, 0⟩⟩, ⟨false, ⟨0, 0, 0⟩, ⟨-9223372036854775808, 0, 0⟩⟩]
theorem listU_wf : ∀ u ∈ listU, u.wf := by
  intro u hu
  have h : listU.all (fun u => (Lit.int .i64 u.v.a).wf && (Lit.int .i64 u.v.b).wf && (Lit.int .i64 u.v.c).wf && (Lit.int .i64 u.h.a).wf && (Lit.int .i64 u.h.b).wf && (Lit.int .i64 u.h.c).wf) = true := by decide +kernel
  have := List.all_eq_true.1 h u hu
  simp only [Bool.and_eq_true] at this
  exact ⟨this.1.1.1.1.1, this.1.1.1.1.2, this.1.1.1.2, this.1.1.2, this.1.2, this.2⟩
theorem RdU.sl {M : Mem} {A : Option Addr} {us : List Un} {l m c : Nat} (h : RdU M A us) (h2 : l + m ≤ us.length) (hc : us.length ≤ c) : RdU M (slAddr 7 A l c) ((us.drop l).take m) := by
  have := Rd.slAddr h (l := l) (h := l + m) (c := c) (by omega) h2 hc
  unfold RdU
  have e : ((us.drop l).take m).length = m := by rw [List.length_take, List.length_drop]; omega
  rw [e]
  have e2 : cellsU ((us.drop l).take m) = ((cellsU us).drop (l * 7)).take (m * 7) := by
    have d : cellsU us = cellsU (us.take l) ++ (cellsU ((us.drop l).take m) ++ cellsU ((us.drop l).drop m)) := by
      rw [← cellsU_app, List.take_append_drop, ← cellsU_app, List.take_append_drop]
    have l1 : (cellsU (us.take l)).length = l * 7 := by rw [cellsU_len, List.length_take, Nat.min_eq_left (by omega)]
    have l2 : (cellsU ((us.drop l).take m)).length = m * 7 := by rw [cellsU_len, e]
    rw [d, ← l1, List.drop_left, ← l2, List.take_left]
  rw [e2]
  have em : l + m - l = m := by omega
  rw [em] at this
  exact this
theorem usual_planes (lo : Nat) (A : Option Addr) (cu : Nat) (us : List Un) (side : Int) (M0 M : Mem) (hlo : lo ≤ M0.length) (hU : RdU M A us) (hwf : ∀ u ∈ us, u.wf) (hul : us.length ≤ 1000) (X Y : Option Addr) (hx : RdI M .u8 X usualL) (hy : RdI M .u8 Y usualL) (hM : M0.length ≤ M.length) :
    Ac P T lo F.zoetropelaw24_WienerPlanes [.agg ⟨[.int .i64 7, .int .i64 1, .slice X 7 7, .int .i64 7, .int .i64 1, .slice Y 7 7]⟩, .slice A us.length cu, .int .i64 side] M fun r => ∃ M', r = (.bool true, M') ∧ Pre M M' :=
  planes_ok lo A X Y cu 7 7 us usualL usualL 7 1 7 1 side M (Nat.le_trans hlo hM) hU hwf (by omega) hx hy (byl rfl) (byl rfl) (by decide) (by decide)
section
variable (lo : Nat) (a : Addr) (M0 : Mem) (hlo : lo ≤ M0.length)
include hlo
theorem names_one (hnext : ∀ M, Pre M0 M → RdU M (some a) listU → Run P T lo F.zoetropelaw24_WienerNames (zoetropelaw24_WienerNames.c116 (some a) 12 12 12 M) fun r => r.1 = .bool true) : ∀ (d i : Nat) (M : Mem), 12 - i = d → i ≤ 12 → Pre M0 M → RdU M (some a) listU →
    Run P T lo F.zoetropelaw24_WienerNames (zoetropelaw24_WienerNames.c116 (some a) 12 12 i M) fun r => r.1 = .bool true := by
  intro d
  induction d with
  | zero =>
    intro i M hd hi hp hU
    obtain rfl : i = 12 := by omega
    exact hnext M hp hU
  | succ d ih =>
    intro i M hd hi hp hU
    have hil : i < listU.length := by show i < 12; omega
    have wu : (listU.getD i u0).wf := listU_wf _ (by rw [List.getD_eq_getElem?_getD, List.getElem?_eq_getElem hil]; exact List.getElem_mem hil)
    refine Run.cut (Evp.of_eq (fun k => zoetropelaw24_WienerNames.p116 k ..) ?_)
    refine Evp.dec (fun _ => ?_) fun h => absurd h (by omega)
    refine Evp.pos (by omega) ?_
    simp only [Int.toNat_natCast]
    refine Evp.ldU hU hil fun _ _ => ?_
    refine Evp.ob (wtaps_ok lo (listU.getD i u0) M wu) ?_
    rintro _ ⟨M1, rfl, p1⟩
    simp only [ret_int, ret_bool, ret_flt, ret_slc, ret_str, ret_ptr, ret_agg, ret_tup, ob_some, bb_true, bb_false, List.getElem?_cons_zero, List.getElem?_cons_succ, List.length_cons, List.length_nil, Nat.reduceAdd, Nat.reduceLT]
    refine Evp.ff rfl ?_
    rw [w64 (x := (i : Int) + 1) (by omega), show ((i : Int) + 1) = ((i + 1 : Nat) : Int) by omega]
    simp only [Int.toNat_natCast, Nat.add_sub_cancel_left]
    have q1 := hp.trans p1
    have one : ∀ (side : Int) (M : Mem), Pre M0 M → RdU M (some a) listU → ∀ (X Y : Option Addr), RdI M .u8 X usualL → RdI M .u8 Y usualL → Ac P T lo F.zoetropelaw24_WienerPlanes [.agg ⟨[.int .i64 7, .int .i64 1, .slice X 7 7, .int .i64 7, .int .i64 1, .slice Y 7 7]⟩, .slice (slAddr 7 (some a) i 12) 1 (12 - i), .int .i64 side] M fun r => ∃ M', r = (.bool true, M') ∧ Pre M M' := fun side M hp hU X Y hX hY => by
      have l1 : ((listU.drop i).take 1).length = 1 := by rw [List.length_take, List.length_drop]; omega
      have := usual_planes lo (slAddr 7 (some a) i 12) (12 - i) ((listU.drop i).take 1) side M0 M hlo (hU.sl (l := i) (m := 1) (by omega) (Nat.le_refl _)) (fun u hu => listU_wf u (List.mem_of_mem_drop (List.mem_of_mem_take hu))) (by omega) X Y hX hY hp.len
      rw [l1] at this
      exact this
    refine Evp.ob (usual_ok ..) ?_
    rintro _ rfl
    simp only [ret_int, ret_bool, ret_flt, ret_slc, ret_str, ret_ptr, ret_agg, ret_tup, ob_some, bb_true, bb_false, List.getElem?_cons_zero, List.getElem?_cons_succ, List.length_cons, List.length_nil, Nat.reduceAdd, Nat.reduceLT]
    refine Evp.ob (usual_ok ..) ?_
    rintro _ rfl
    simp only [ret_int, ret_bool, ret_flt, ret_slc, ret_str, ret_ptr, ret_agg, ret_tup, ob_some, bb_true, bb_false, List.getElem?_cons_zero, List.getElem?_cons_succ, List.length_cons, List.length_nil, Nat.reduceAdd, Nat.reduceLT]
    have x1 := Pre.app M1 [⟨.fx, usualL.map (Value.int .u8)⟩]
    have x2 := Pre.app (M1 ++ [⟨.fx, usualL.map (Value.int .u8)⟩]) [⟨.fx, usualL.map (Value.int .u8)⟩]
    have y1 : RdI (M1 ++ [⟨.fx, usualL.map (Value.int .u8)⟩] : Mem) .u8 (some ⟨M1.length, 0, none⟩) usualL := RdI.lit usualL
    have y2 := RdI.lit (M := (M1 ++ [⟨.fx, usualL.map (Value.int .u8)⟩] : Mem)) (k := .u8) usualL
    refine Evp.pos (by omega) ?_
    refine Evp.ob (one 64 _ (q1.trans (x1.trans x2)) ((hU.pre p1).pre (x1.trans x2)) _ _ (y1.pre x2) y2) ?_
    rintro _ ⟨M2, rfl, p2⟩
    simp only [ret_int, ret_bool, ret_flt, ret_slc, ret_str, ret_ptr, ret_agg, ret_tup, ob_some, bb_true, bb_false, List.getElem?_cons_zero, List.getElem?_cons_succ, List.length_cons, List.length_nil, Nat.reduceAdd, Nat.reduceLT]
    refine Evp.ff rfl ?_
    have p2' : Pre M1 M2 := (x1.trans x2).trans p2
    clear x1 x2 y1 y2 p2
    have q2 := q1.trans p2'
    refine Evp.ob (usual_ok ..) ?_
    rintro _ rfl
    simp only [ret_int, ret_bool, ret_flt, ret_slc, ret_str, ret_ptr, ret_agg, ret_tup, ob_some, bb_true, bb_false, List.getElem?_cons_zero, List.getElem?_cons_succ, List.length_cons, List.length_nil, Nat.reduceAdd, Nat.reduceLT]
    refine Evp.ob (usual_ok ..) ?_
    rintro _ rfl
    simp only [ret_int, ret_bool, ret_flt, ret_slc, ret_str, ret_ptr, ret_agg, ret_tup, ob_some, bb_true, bb_false, List.getElem?_cons_zero, List.getElem?_cons_succ, List.length_cons, List.length_nil, Nat.reduceAdd, Nat.reduceLT]
    have x1 := Pre.app M2 [⟨.fx, usualL.map (Value.int .u8)⟩]
    have x2 := Pre.app (M2 ++ [⟨.fx, usualL.map (Value.int .u8)⟩]) [⟨.fx, usualL.map (Value.int .u8)⟩]
    have y1 : RdI (M2 ++ [⟨.fx, usualL.map (Value.int .u8)⟩] : Mem) .u8 (some ⟨M2.length, 0, none⟩) usualL := RdI.lit usualL
    have y2 := RdI.lit (M := (M2 ++ [⟨.fx, usualL.map (Value.int .u8)⟩] : Mem)) (k := .u8) usualL
    refine Evp.pos (by omega) ?_
    refine Evp.ob (one 32 _ (q2.trans (x1.trans x2)) (((hU.pre p1).pre p2').pre (x1.trans x2)) _ _ (y1.pre x2) y2) ?_
    rintro _ ⟨M3, rfl, p3⟩
    simp only [ret_int, ret_bool, ret_flt, ret_slc, ret_str, ret_ptr, ret_agg, ret_tup, ob_some, bb_true, bb_false, List.getElem?_cons_zero, List.getElem?_cons_succ, List.length_cons, List.length_nil, Nat.reduceAdd, Nat.reduceLT]
    refine Evp.ff rfl ?_
    have p3' : Pre M2 M3 := (x1.trans x2).trans p3
    exact Evp.ret (ih (i + 1) M3 (by omega) (by omega) (q2.trans p3') (((hU.pre p1).pre p2').pre p3'))
abbrev sidesL : List Int := [64, 32, 16, 0, -32, 65]
omit hlo in
theorem names_sides (b c : Addr) (xs : List Int) (cs : Addr) (bx : Bytes xs) (hl : xs.length = 2310) (fin : ∀ M, Pre M0 M → Run P T lo F.zoetropelaw24_WienerNames (zoetropelaw24_WienerNames.c16372 (some a) 12 12 0 0 (some cs) 6 6 6 (-5) 8 46 30 46 8 (-5) 0 0 0 128 0 0 0 33 70 (some b) 2310 2310 33 70 (some c) 2310 2310 M) fun r => r.1 = .bool true)
    (hU : RdU M0 (some a) listU) (hx : RdI M0 .u8 (some b) xs) (hb : RdI M0 .u8 (some c) (List.replicate 2310 9)) (hs : RdI M0 .i64 (some cs) sidesL) : ∀ (d i : Nat) (M : Mem), 6 - i = d → i ≤ 6 → Pre M0 M →
    Run P T lo F.zoetropelaw24_WienerNames (zoetropelaw24_WienerNames.c16372 (some a) 12 12 0 0 (some cs) 6 6 i (-5) 8 46 30 46 8 (-5) 0 0 0 128 0 0 0 33 70 (some b) 2310 2310 33 70 (some c) 2310 2310 M) fun r => r.1 = .bool true := by
  have l9 : (List.replicate 2310 (9 : Int)).length = 2310 := List.length_replicate
  have b9 : Bytes (List.replicate 2310 (9 : Int)) := fun x hx => by rw [(List.mem_replicate.1 hx).2]; decide
  have l12 : listU.length = 12 := rfl
  intro d
  induction d with
  | zero =>
    intro i M hd hi hp
    obtain rfl : i = 6 := by omega
    exact fin M hp
  | succ d ih =>
    intro i M hd hi hp
    have hil : i < sidesL.length := by show i < 6; omega
    have wide : ∀ (A : Option Addr) (cu : Nat) (us : List Un) (side : Int) (M1 M' : Mem), Pre M0 M1 → M1.length ≤ M'.length → Pre M0 M' → RdU M' A us → (∀ u ∈ us, u.wf) → us.length ≤ 1000 → Ac P T M1.length F.zoetropelaw24_WienerPlanes [.agg ⟨[.int .i64 33, .int .i64 70, .slice (some b) 2310 2310, .int .i64 33, .int .i64 70, .slice (some c) 2310 2310]⟩, .slice A us.length cu, .int .i64 side] M' fun r => ∃ M2, r = (.bool true, M2) ∧ Pre M' M2 := fun A cu us side M1 M' hp1 hlen hp' hA hwf hul => by
      have := planes_ok M1.length A (some b) (some c) cu 2310 2310 us xs (List.replicate 2310 9) 33 70 33 70 side M' hlen hA hwf (by omega) (hx.pre hp') (hb.pre hp') bx b9 (by omega) (by omega)
      rw [l9, hl] at this
      exact this
    refine Run.cut (Evp.of_eq (fun k => zoetropelaw24_WienerNames.p16372 k ..) ?_)
    refine Evp.dec (fun _ => ?_) fun h => absurd h (by omega)
    refine Evp.pos (by decide) (Evp.pos (by omega) ?_)
    simp only [Int.toNat_natCast]
    refine Evp.ldI (hs.pre hp) hil fun _ _ => ?_
    have W1 := wide (slAddr 7 (some a) 4 12) (12 - 4) ((listU.drop 4).take 2) (sidesL.getD i 0) M M hp (Nat.le_refl _) hp ((hU.pre hp).sl (l := 4) (m := 2) (by decide) (by decide)) (fun u hu => listU_wf u (List.mem_of_mem_drop (List.mem_of_mem_take hu))) (by decide)
    refine Evp.ob W1 ?_
    rintro _ ⟨M1, rfl, p1⟩
    simp only [ret_int, ret_bool, ret_flt, ret_slc, ret_str, ret_ptr, ret_agg, ret_tup, ob_some, bb_true, bb_false, List.getElem?_cons_zero, List.getElem?_cons_succ, List.length_cons, List.length_nil, Nat.reduceAdd, Nat.reduceLT]
    refine Evp.ff rfl ?_
    have q1 := hp.trans p1
    have hU1 := hU.pre q1
    refine Evp.pos (by decide) (Evp.ldU (k := 4) hU1 (by decide) fun _ _ => ?_)
    refine Evp.pos (by decide) (Evp.ldU (k := 4) hU1 (by decide) fun _ _ => ?_)
    refine Evp.pos (by decide) (Evp.ldU (k := 1) hU1 (by decide) fun _ _ => ?_)
    refine Evp.pos (by decide) (Evp.ldU (k := 0) hU1 (by decide) fun _ _ => ?_)
    refine Evp.pos (by decide) (Evp.ldU (k := 4) hU1 (by decide) fun _ _ => ?_)
    refine Evp.pos (by decide) (Evp.ldU (k := 4) hU1 (by decide) fun _ _ => ?_)
    refine Evp.pos (by omega) ?_
    obtain ⟨a', ea, hab, hld⟩ := (hs.pre hp).ld hil
    injection ea with ea; subst ea
    have hbk : (plus cs i).block < M.length := by rw [plus_block]; exact hab
    have ld : ∀ M', Pre M0 M' → (if (plus cs i).block < M.length then M'.ld (plus cs i) else none).bind (Value.int? .i64) = some (sidesL.getD i 0) := fun M' hp' => by
      rw [if_pos hbk]
      obtain ⟨a', ea, _, hld⟩ := (hs.pre hp').ld hil
      injection ea with ea; subst ea
      rw [hld]; simp [Value.int?]
    have x2 := Pre.app M1 [⟨.fx, cellsU [listU.getD 4 u0, listU.getD 4 u0, listU.getD 1 u0, listU.getD 0 u0, listU.getD 4 u0, listU.getD 4 u0]⟩]
    refine Evp.some rfl (Evp.some (ld _ (q1.trans x2)) ?_)
    have sub : ∀ i, i < 12 → (listU.getD i u0).wf := fun i hi => listU_wf _ (by rw [List.getD_eq_getElem?_getD, List.getElem?_eq_getElem (by rw [l12]; exact hi)]; exact List.getElem_mem _)
    have r2 : RdU (M1 ++ [⟨.fx, cellsU [listU.getD 4 u0, listU.getD 4 u0, listU.getD 1 u0, listU.getD 0 u0, listU.getD 4 u0, listU.getD 4 u0]⟩] : Mem) (some ⟨M1.length, 0, none⟩) [listU.getD 4 u0, listU.getD 4 u0, listU.getD 1 u0, listU.getD 0 u0, listU.getD 4 u0, listU.getD 4 u0] := Rd.lit (cellsU_len _)
    refine Evp.ob (wide (some ⟨M1.length, 0, none⟩) 6 _ (sidesL.getD i 0) M _ hp (p1.trans x2).len (q1.trans x2) r2 (fun u hu => by
      simp only [List.mem_cons, List.not_mem_nil, or_false] at hu
      rcases hu with rfl | rfl | rfl | rfl | rfl | rfl
      all_goals exact sub _ (by decide)) (by simp)) ?_
    rintro _ ⟨M2, rfl, p2⟩
    simp only [ret_int, ret_bool, ret_flt, ret_slc, ret_str, ret_ptr, ret_agg, ret_tup, ob_some, bb_true, bb_false, List.getElem?_cons_zero, List.getElem?_cons_succ, List.length_cons, List.length_nil, Nat.reduceAdd, Nat.reduceLT]
    refine Evp.ff rfl ?_
    have t2 := (p1.trans x2).trans p2
    have q2 := hp.trans t2
    have hU2 := hU.pre q2
    refine Evp.pos (by decide) (Evp.ldU (k := 4) hU2 (by decide) fun _ _ => ?_)
    refine Evp.pos (by decide) (Evp.ldU (k := 4) hU2 (by decide) fun _ _ => ?_)
    refine Evp.pos (by omega) ?_
    have x3 := Pre.app M2 [⟨.fx, cellsU [listU.getD 4 u0, listU.getD 4 u0]⟩]
    refine Evp.some rfl (Evp.some (ld _ (q2.trans x3)) ?_)
    have r3 : RdU (M2 ++ [⟨.fx, cellsU [listU.getD 4 u0, listU.getD 4 u0]⟩] : Mem) (some ⟨M2.length, 0, none⟩) [listU.getD 4 u0, listU.getD 4 u0] := Rd.lit (cellsU_len _)
    refine Evp.ob (wide (some ⟨M2.length, 0, none⟩) 2 _ (sidesL.getD i 0) M _ hp (t2.trans x3).len (q2.trans x3) r3 (fun u hu => by
      simp only [List.mem_cons, List.not_mem_nil, or_false] at hu
      rcases hu with rfl | rfl
      all_goals exact sub _ (by decide)) (by simp)) ?_
    rintro _ ⟨M3, rfl, p3⟩
    simp only [ret_int, ret_bool, ret_flt, ret_slc, ret_str, ret_ptr, ret_agg, ret_tup, ob_some, bb_true, bb_false, List.getElem?_cons_zero, List.getElem?_cons_succ, List.length_cons, List.length_nil, Nat.reduceAdd, Nat.reduceLT]
    refine Evp.ff rfl ?_
    have t3 := (t2.trans x3).trans p3
    have q3 := hp.trans t3
    refine Evp.ob (usual_ok ..) ?_
    rintro _ rfl
    simp only [ret_int, ret_bool, ret_flt, ret_slc, ret_str, ret_ptr, ret_agg, ret_tup, ob_some, bb_true, bb_false, List.getElem?_cons_zero, List.getElem?_cons_succ, List.length_cons, List.length_nil, Nat.reduceAdd, Nat.reduceLT]
    have x4 := Pre.app M3 [⟨.fx, usualL.map (Value.int .u8)⟩]
    have y4 : RdI (M3 ++ [⟨.fx, usualL.map (Value.int .u8)⟩] : Mem) .u8 (some ⟨M3.length, 0, none⟩) usualL := RdI.lit usualL
    have q4 := q3.trans x4
    refine Evp.pos (by decide) (Evp.pos (by omega) ?_)
    refine Evp.some rfl (Evp.some (ld _ q4) ?_)
    have W4 := planes_ok M.length (slAddr 7 (some a) 0 12) (some b) (some ⟨M3.length, 0, none⟩) (12 - 0) 2310 7 ((listU.drop 0).take 2) xs usualL 33 70 7 1 (sidesL.getD i 0) _ (t3.trans x4).len ((hU.pre q4).sl (l := 0) (m := 2) (by decide) (by decide)) (fun u hu => listU_wf u (List.mem_of_mem_drop (List.mem_of_mem_take hu))) (by decide) (hx.pre q4) y4 bx (byl rfl) (by omega) (by decide)
    rw [hl] at W4
    refine Evp.ob W4 ?_
    rintro _ ⟨M4, rfl, p4⟩
    simp only [ret_int, ret_bool, ret_flt, ret_slc, ret_str, ret_ptr, ret_agg, ret_tup, ob_some, bb_true, bb_false, List.getElem?_cons_zero, List.getElem?_cons_succ, List.length_cons, List.length_nil, Nat.reduceAdd, Nat.reduceLT]
    refine Evp.ff rfl ?_
    have t4 := (t3.trans x4).trans p4
    have q5 := hp.trans t4
    refine Evp.pos (by omega) ?_
    refine Evp.ldI (hs.pre q5) hil fun _ _ => ?_
    refine Evp.ob (planes_ok M.length none none none 0 0 0 [] [] [] 0 0 0 0 (sidesL.getD i 0) M4 t4.len Rd.zero (fun u hu => absurd hu (by simp)) (by decide) RdI.nil RdI.nil (fun u hu => absurd hu (by simp)) (fun u hu => absurd hu (by simp)) (by decide) (by decide)) ?_
    rintro _ ⟨M5, rfl, p5⟩
    simp only [ret_int, ret_bool, ret_flt, ret_slc, ret_str, ret_ptr, ret_agg, ret_tup, ob_some, bb_true, bb_false, List.getElem?_cons_zero, List.getElem?_cons_succ, List.length_cons, List.length_nil, Nat.reduceAdd, Nat.reduceLT]
    refine Evp.ff rfl ?_
    rw [w64 (by omega)]
    exact Evp.ret (ih (i + 1) M5 (by omega) (by omega) (q5.trans p5))
theorem names_wide (b : Addr) (hU : RdU M0 (some a) listU) : ∀ (d i : Nat) (xs : List Int) (M : Mem), 2310 - i = d → i ≤ 2310 → xs.length = 2310 → Bytes xs → Pre M0 M → Buf M0 M b (xs.map (Value.int .u8)) →
    Run P T lo F.zoetropelaw24_WienerNames (zoetropelaw24_WienerNames.c2036 (some a) 12 12 0 0 i (-5) 8 46 30 46 8 (-5) 0 0 0 128 0 0 0 33 70 (some b) 2310 2310 M) fun r => r.1 = .bool true := by
  intro d
  induction d with
  | zero =>
    intro i xs M hd hi hl bx hp hbuf
    obtain rfl : i = 2310 := by omega
    refine Run.cut (Evp.of_eq (fun k => zoetropelaw24_WienerNames.p2036 k ..) ?_)
    refine Evp.dec (fun h => absurd h (by decide)) fun _ => ?_
    refine Evp.ob (new_nat lo 33 70 9 M (Nat.le_trans hlo hp.len) (by decide) (by decide)) ?_
    rintro _ ⟨c, M1, rfl, p1, c1⟩
    simp only [ret_int, ret_bool, ret_flt, ret_slc, ret_str, ret_ptr, ret_agg, ret_tup, ob_some, bb_true, bb_false, List.getElem?_cons_zero, List.getElem?_cons_succ, List.length_cons, List.length_nil, Nat.reduceAdd, Nat.reduceLT]
    have x2 := Pre.app M1 [⟨.fx, sidesL.map (Value.int .i64)⟩]
    have q1 := hp.trans p1
    have q2 := q1.trans x2
    have hs : RdI (M1 ++ [⟨.fx, sidesL.map (Value.int .i64)⟩] : Mem) .i64 (some ⟨M1.length, 0, none⟩) sidesL := RdI.lit sidesL
    refine Evp.ret (names_sides lo a (M1 ++ [⟨.fx, sidesL.map (Value.int .i64)⟩] : Mem) b c xs ⟨M1.length, 0, none⟩ bx hl (fun M hM => ?_) (hU.pre q2) ((hbuf.rdI.pre p1).pre x2) (c1.rdI.pre x2) hs 6 0 _ rfl (by decide) (Pre.refl _))
    refine Run.cut (Evp.of_eq (fun k => zoetropelaw24_WienerNames.p16372 k ..) ?_)
    refine Evp.dec (fun h => absurd h (by decide)) fun _ => ?_
    refine Evp.ob (awake_ok lo M (Nat.le_trans hlo (q2.trans hM).len)) ?_
    rintro _ ⟨M2, rfl, p2⟩
    simp only [ret_int, ret_bool, ret_flt, ret_slc, ret_str, ret_ptr, ret_agg, ret_tup, ob_some, bb_true, bb_false, List.getElem?_cons_zero, List.getElem?_cons_succ, List.length_cons, List.length_nil, Nat.reduceAdd, Nat.reduceLT]
    refine Evp.tt rfl (Evp.tt rfl (Evp.tt rfl ?_))
    have k1 := key7 (l := [-5, 8, 46, 30, 46, 8, -5]) rfl (by intro x hx; simp at hx; omega)
    have k2 := key7 (l := [0, 0, 0, 128, 0, 0, 0]) rfl (by intro x hx; simp at hx; omega)
    refine Evp.some k1 (Evp.some k1 (Evp.tt ((sameLits_eq _ _).2 rfl) (Evp.some k2 (Evp.some k2 ?_))))
    exact Evp.ret (Run.ret (by rw [(sameLits_eq _ _).2 rfl]))
  | succ d ih =>
    intro i xs M hd hi hl bx hp hbuf
    refine Run.cut (Evp.of_eq (fun k => zoetropelaw24_WienerNames.p2036 k ..) ?_)
    refine Evp.dec (fun _ => ?_) fun h => absurd h (by omega)
    refine Evp.pos (by omega) (Evp.some rfl ?_)
    simp only [Int.toNat_natCast]
    obtain ⟨M1, h1, h2, h3, h4, h5⟩ := hbuf.st (lo := lo) (i := i) (vs := [.int .u8 (IntKind.u8.wrap (IntKind.i64.wrap (Int.tdiv (IntKind.i64.wrap ((i : Int) * i)) 7)))]) hp hlo (by simp; omega)
    refine Evp.some h1 ?_
    rw [setL_one, set_map] at h2
    rw [w64 (x := (i : Int) + 1) (by omega)]
    refine Evp.ret (ih (i + 1) _ M1 (by omega) (by omega) (by simpa using hl) (fun z hz => ?_) h3 h2)
    rcases List.mem_or_eq_of_mem_set hz with hz | rfl
    · exact bx _ hz
    · rw [IntKind.wrap_u8]; omega
end
theorem WienerNames_law (M : Mem) (vs : List Value) (hro : AllRo M) (hv : LaysArgs P M [] vs) : Ac P T M.length F.zoetropelaw24_WienerNames vs M fun r => r.1 = .bool true := by
  obtain rfl := args_nil hv
  refine Ac.of (Evp.of_eq (fun k => zoetropelaw24_WienerNames.entry k ..) ?_)
  have x1 := Pre.app M [⟨.fx, cellsU listU⟩]
  have r1 : RdU (M ++ [⟨.fx, cellsU listU⟩] : Mem) (some ⟨M.length, 0, none⟩) listU := Rd.lit (cellsU_len _)
  refine Evp.ret (names_one M.length ⟨M.length, 0, none⟩ _ x1.len (fun M1 p1 hU => ?_) 12 0 _ rfl (by decide) (Pre.refl _) r1)
  have q1 := x1.trans p1
  refine Run.cut (Evp.of_eq (fun k => zoetropelaw24_WienerNames.p116 k ..) ?_)
  refine Evp.dec (fun h => absurd h (by decide)) fun _ => ?_
  refine Evp.ob (seven_ok _ ⟨-5, 8, 46⟩ M1) ?_
  rintro _ ⟨v0, v1, v2, v3, v4, v5, v6, rfl, ev⟩
  simp only [ret_int, ret_bool, ret_flt, ret_slc, ret_str, ret_ptr, ret_agg, ret_tup, ob_some, bb_true, bb_false, List.getElem?_cons_zero, List.getElem?_cons_succ, List.length_cons, List.length_nil, Nat.reduceAdd, Nat.reduceLT]
  refine Evp.ob (seven_ok _ ⟨0, 0, 0⟩ M1) ?_
  rintro _ ⟨u0, u1, u2, u3, u4, u5, u6, rfl, eu⟩
  simp only [ret_int, ret_bool, ret_flt, ret_slc, ret_str, ret_ptr, ret_agg, ret_tup, ob_some, bb_true, bb_false, List.getElem?_cons_zero, List.getElem?_cons_succ, List.length_cons, List.length_nil, Nat.reduceAdd, Nat.reduceLT]
  have es : sevL ⟨-5, 8, 46⟩ = [-5, 8, 46, 30, 46, 8, -5] := by decide +kernel
  have et : sevL ⟨0, 0, 0⟩ = [0, 0, 0, 128, 0, 0, 0] := by decide +kernel
  rw [es] at ev
  rw [et] at eu
  injection ev with e0 ev; injection ev with e1 ev; injection ev with e2 ev; injection ev with e3 ev; injection ev with e4 ev; injection ev with e5 ev; injection ev with e6 ev
  injection eu with f0 eu; injection eu with f1 eu; injection eu with f2 eu; injection eu with f3 eu; injection eu with f4 eu; injection eu with f5 eu; injection eu with f6 eu
  subst e0; subst e1; subst e2; subst e3; subst e4; subst e5; subst e6
  subst f0; subst f1; subst f2; subst f3; subst f4; subst f5; subst f6
  refine Evp.pos (by decide) ?_
  rw [if_pos (by decide), if_pos (by decide)]
  have hz : zerosL [.int .u8 0] 2310 = (List.replicate 2310 (0 : Int)).map (Value.int .u8) := by rw [zerosL_one, List.map_replicate]
  rw [hz]
  exact Evp.ret (names_wide M.length ⟨M.length, 0, none⟩ M1 q1.len ⟨M1.length, 0, none⟩ hU 2310 0 (List.replicate 2310 0) _ rfl (by decide) List.length_replicate (fun x hx => by obtain rfl := (List.mem_replicate.1 hx).2; decide) (Pre.app _ _) (Buf.push (Pre.refl _)))
end Go.Zt
