/- Coded; that it works at all; New, At, told. -/
import Derived.Test.YtkmakjapgkfdnaaFe
set_option linter.unusedVariables false
set_option linter.unusedSimpArgs false
set_option maxRecDepth 100000
namespace Go.Zt
section
variable (lo : Nat) (w h : Nat) (A0 A1 A2 : Option Addr) (c0 c1 c2 : Nat) (xs ys zs : List Int) (M : Mem)
theorem coded_nat (hlo : lo ≤ M.length) (hx : RdI M .u8 A0 xs) (hy : RdI M .u8 A1 ys) (hz : RdI M .u8 A2 zs) (hc0 : xs.length ≤ c0) (hc1 : ys.length ≤ c1) (hc2 : zs.length ≤ c2) (hs : sideP w ∧ sideP h) (n0 : xs.length = w * h) (n1 : ys.length = (w / 2) * (h / 2)) (n2 : zs.length = (w / 2) * (h / 2))
    (W H : Nat) (hW : W = (w + 7) / 8 * 8) (hH : H = (h + 7) / 8 * 8) :
    Ac P T lo F.plane_Coded [.agg ⟨[.int .i64 w, .int .i64 h, .slice A0 xs.length c0, .int .i64 (w / 2 : Nat), .int .i64 (h / 2 : Nat), .slice A1 ys.length c1, .int .i64 (w / 2 : Nat), .int .i64 (h / 2 : Nat), .slice A2 zs.length c2]⟩] M fun r =>
      ∃ a0 a1 a2 M', r = (.tuple ⟨[.agg ⟨[.int .i64 W, .int .i64 H, .slice (some a0) (H * W) (H * W), .int .i64 (W / 2 : Nat), .int .i64 (H / 2 : Nat), .slice (some a1) ((H / 2) * (W / 2)) ((H / 2) * (W / 2)), .int .i64 (W / 2 : Nat), .int .i64 (H / 2 : Nat), .slice (some a2) ((H / 2) * (W / 2)) ((H / 2) * (W / 2))]⟩, .int .i64 0]⟩, M') ∧ Pre M M' ∧
        Buf M M' a0 ((sizedS w h xs W (H * W)).map (Value.int .u8)) ∧ Buf M M' a1 ((sizedS (w / 2 : Nat) (h / 2 : Nat) ys (W / 2) ((H / 2) * (W / 2))).map (Value.int .u8)) ∧ Buf M M' a2 ((sizedS (w / 2 : Nat) (h / 2 : Nat) zs (W / 2) ((H / 2) * (W / 2))).map (Value.int .u8)) ∧ a0.block ≠ a1.block ∧ a0.block ≠ a2.block ∧ a1.block ≠ a2.block := by
  have hs' := hs
  unfold sideP at hs'
  have ck : ∀ u v : Nat, 1 ≤ u → u ≤ 512 → 1 ≤ v → v ≤ 512 → checkS u v ((u * v : Nat) : Int) = 0 := fun u v a b c d => by
    unfold checkS
    rw [if_pos ⟨by omega, by omega, by omega, by omega, by simp⟩]
  have hwh : wholeS w h xs.length (w / 2 : Nat) (h / 2 : Nat) ys.length (w / 2 : Nat) (h / 2 : Nat) zs.length = 0 := by
    unfold wholeS
    rw [n0, n1, n2, if_pos ⟨ck _ _ (by omega) (by omega) (by omega) (by omega), hs.1, hs.2, ck _ _ (by omega) (by omega) (by omega) (by omega), rfl, rfl, ck _ _ (by omega) (by omega) (by omega) (by omega), rfl, rfl⟩]
  refine Ac.of (Evp.of_eq (fun k => plane_Coded.entry k ..) ?_)
  refine Evp.ob (whole_ok ..) ?_
  rintro _ rfl
  simp only [ret_int, ret_bool, ret_flt, ret_slc, ret_str, ret_ptr, ret_agg, ret_tup, ob_some, bb_true, bb_false, List.getElem?_cons_zero, List.getElem?_cons_succ, List.length_cons, List.length_nil, Nat.reduceAdd, Nat.reduceLT]
  refine Evp.ff (by rw [hwh]; rfl) ?_
  have e1 : (w : Int) + 7 = ((w + 7 : Nat) : Int) := rfl
  have e2 : (h : Int) + 7 = ((h + 7 : Nat) : Int) := rfl
  rw [e1, e2, w64 (x := ((w + 7 : Nat) : Int)) (by omega), w64 (x := ((h + 7 : Nat) : Int)) (by omega), clr7 _ (by omega), clr7 _ (by omega), ← hW, ← hH]
  refine Evp.ob (resized_ok lo w h W H A0 A1 A2 c0 c1 c2 xs ys zs M hlo hx hy hz hc0 hc1 hc2 hs (by unfold sideP; omega) n0 n1 n2) ?_
  rintro _ ⟨a0, a1, a2, M', rfl, hp, hb⟩
  simp only [ret_int, ret_bool, ret_flt, ret_slc, ret_str, ret_ptr, ret_agg, ret_tup, ob_some, bb_true, bb_false, List.getElem?_cons_zero, List.getElem?_cons_succ, List.length_cons, List.length_nil, Nat.reduceAdd, Nat.reduceLT]
  exact Evp.ret (Run.ret ⟨a0, a1, a2, M', rfl, hp, hb⟩)
end
abbrev fourL : List Int := [1, 2, 3, 4]
theorem four_ok (lo : Nat) (M : Mem) : Ac P T lo F.zoetropelaw05_four [] M fun r => r = (.agg ⟨[.int .i64 2, .int .i64 2, .slice (some ⟨M.length, 0, none⟩) 4 4]⟩, M ++ [⟨.fx, [.int .u8 1, .int .u8 2, .int .u8 3, .int .u8 4]⟩]) := by
  refine Ac.of (Evp.of_eq (fun k => zoetropelaw05_four.entry k ..) ?_)
  exact Evp.ret (Run.ret rfl)
theorem fourB : Bytes fourL := by intro x hx; simp at hx; omega
theorem works_ok (lo : Nat) (M : Mem) (hlo : lo ≤ M.length) : Ac P T lo F.zoetropelaw05_works [] M fun r => ∃ M', r = (.bool true, M') ∧ Pre M M' := by
  refine Ac.of (Evp.of_eq (fun k => zoetropelaw05_works.entry k ..) ?_)
  refine Evp.ob (four_ok ..) ?_
  rintro _ rfl
  simp only [ret_int, ret_bool, ret_flt, ret_slc, ret_str, ret_ptr, ret_agg, ret_tup, ob_some, bb_true, bb_false, List.getElem?_cons_zero, List.getElem?_cons_succ, List.length_cons, List.length_nil, Nat.reduceAdd, Nat.reduceLT]
  have p1 := Pre.app M [⟨.fx, fourL.map (Value.int .u8)⟩]
  refine Evp.ob (pcut_ok lo 2 2 (some ⟨M.length, 0, none⟩) 4 fourL 1 0 1 2 _ (RdI.lit (k := .u8) fourL) (by decide) (Nat.le_trans hlo p1.len)) ?_
  rintro ⟨r, M2⟩ ⟨p2, h2⟩
  rw [if_pos (by decide)] at h2
  obtain ⟨B2, cc2, rfl, g2, _⟩ := h2
  rw [show cutS (2 : Int).toNat fourL (1 : Int).toNat (0 : Int).toNat (1 : Int).toNat ((2 : Int).toNat * (1 : Int).toNat) = [2, 4] from by decide] at g2 ⊢
  simp only [ret_int, ret_bool, ret_flt, ret_slc, ret_str, ret_ptr, ret_agg, ret_tup, ob_some, bb_true, bb_false, List.getElem?_cons_zero, List.getElem?_cons_succ, List.length_cons, List.length_nil, Nat.reduceAdd, Nat.reduceLT]
  refine Evp.ob (four_ok ..) ?_
  rintro _ rfl
  simp only [ret_int, ret_bool, ret_flt, ret_slc, ret_str, ret_ptr, ret_agg, ret_tup, ob_some, bb_true, bb_false, List.getElem?_cons_zero, List.getElem?_cons_succ, List.length_cons, List.length_nil, Nat.reduceAdd, Nat.reduceLT]
  have p3 := Pre.app M2 [⟨.fx, fourL.map (Value.int .u8)⟩]
  have r3 := RdI.lit (M := M2) (k := .u8) fourL
  have q4 := RdI.lit (M := M2 ++ [⟨.fx, fourL.map (Value.int .u8)⟩]) (k := .u8) [7, 8]
  have p4 := Pre.app (M2 ++ [⟨.fx, fourL.map (Value.int .u8)⟩]) [⟨.fx, ([7, 8] : List Int).map (Value.int .u8)⟩]
  have p14 := ((p1.trans p2).trans p3).trans p4
  refine Evp.ob (play_ok lo 2 2 (some ⟨M2.length, 0, none⟩) 4 fourL 0 1 2 1 _ 2 [7, 8] _ (r3.pre p4) q4 (by decide) (Nat.le_trans hlo p14.len)) ?_
  rintro ⟨r, M5⟩ ⟨p5, h5⟩
  rw [if_pos (by decide)] at h5
  obtain ⟨a5, cc5, rfl, _, g5⟩ := h5
  rw [show layS (2 : Int).toNat fourL [7, 8] (0 : Int).toNat (1 : Int).toNat (2 : Int).toNat (1 : Int).toNat = [1, 2, 7, 8] from by decide] at g5
  simp only [ret_int, ret_bool, ret_flt, ret_slc, ret_str, ret_ptr, ret_agg, ret_tup, ob_some, bb_true, bb_false, List.getElem?_cons_zero, List.getElem?_cons_succ, List.length_cons, List.length_nil, Nat.reduceAdd, Nat.reduceLT]
  refine Evp.ob (four_ok ..) ?_
  rintro _ rfl
  simp only [ret_int, ret_bool, ret_flt, ret_slc, ret_str, ret_ptr, ret_agg, ret_tup, ob_some, bb_true, bb_false, List.getElem?_cons_zero, List.getElem?_cons_succ, List.length_cons, List.length_nil, Nat.reduceAdd, Nat.reduceLT]
  have p6 := Pre.app M5 [⟨.fx, fourL.map (Value.int .u8)⟩]
  have p16 := (p14.trans p5).trans p6
  refine Evp.ob (ppad_ok lo 2 2 3 3 (some ⟨M5.length, 0, none⟩) 4 fourL _ (Nat.le_trans hlo p16.len) (RdI.lit (k := .u8) fourL) (by decide)) ?_
  rintro ⟨r, M7⟩ ⟨p7, h7⟩
  rw [if_pos (by decide)] at h7
  obtain ⟨a7, rfl, g7⟩ := h7
  rw [show sizedS 2 2 fourL (3 : Int).toNat ((3 : Int).toNat * (3 : Int).toNat) = [1, 2, 2, 3, 4, 4, 3, 4, 4] from by decide] at g7
  simp only [ret_int, ret_bool, ret_flt, ret_slc, ret_str, ret_ptr, ret_agg, ret_tup, ob_some, bb_true, bb_false, List.getElem?_cons_zero, List.getElem?_cons_succ, List.length_cons, List.length_nil, Nat.reduceAdd, Nat.reduceLT]
  refine Evp.ob (four_ok ..) ?_
  rintro _ rfl
  simp only [ret_int, ret_bool, ret_flt, ret_slc, ret_str, ret_ptr, ret_agg, ret_tup, ob_some, bb_true, bb_false, List.getElem?_cons_zero, List.getElem?_cons_succ, List.length_cons, List.length_nil, Nat.reduceAdd, Nat.reduceLT]
  have p8 := Pre.app M7 [⟨.fx, fourL.map (Value.int .u8)⟩]
  have r8 := RdI.lit (M := M7) (k := .u8) fourL
  have q9 := RdI.lit (M := M7 ++ [⟨.fx, fourL.map (Value.int .u8)⟩]) (k := .u8) [1, 2, 3, 7]
  have p9 := Pre.app (M7 ++ [⟨.fx, fourL.map (Value.int .u8)⟩]) [⟨.fx, ([1, 2, 3, 7] : List Int).map (Value.int .u8)⟩]
  have p19 := ((p16.trans p7).trans p8).trans p9
  refine Evp.ob (apart_ok lo 2 2 2 2 _ _ 4 4 fourL [1, 2, 3, 7] _ (r8.pre p9) q9 fourB (by intro x hx; simp at hx; omega)) ?_
  rintro _ rfl
  rw [if_pos (by decide), show apartS fourL [1, 2, 3, 7] fourL.length = 9 from by decide]
  simp only [ret_int, ret_bool, ret_flt, ret_slc, ret_str, ret_ptr, ret_agg, ret_tup, ob_some, bb_true, bb_false, List.getElem?_cons_zero, List.getElem?_cons_succ, List.length_cons, List.length_nil, Nat.reduceAdd, Nat.reduceLT]
  refine Evp.ob (frame_ok lo 18 16 5 _ (Nat.le_trans hlo p19.len) (by decide)) ?_
  rintro _ ⟨a0, a1, a2, M10, rfl, p10, b0, b1, b2, _⟩
  simp only [ret_int, ret_bool, ret_flt, ret_slc, ret_str, ret_ptr, ret_agg, ret_tup, ob_some, bb_true, bb_false, List.getElem?_cons_zero, List.getElem?_cons_succ, List.length_cons, List.length_nil, Nat.reduceAdd, Nat.reduceLT]
  have l0 : (List.replicate (18 * 16) (5 : Int)).length = 18 * 16 := List.length_replicate
  have l1 : (List.replicate (18 / 2 * (16 / 2)) (5 : Int)).length = 18 / 2 * (16 / 2) := List.length_replicate
  have fk := coded_nat lo 18 16 (some a0) (some a1) (some a2) (18 * 16) (18 / 2 * (16 / 2)) (18 / 2 * (16 / 2)) (List.replicate (18 * 16) 5) (List.replicate (18 / 2 * (16 / 2)) 5) (List.replicate (18 / 2 * (16 / 2)) 5) M10 (Nat.le_trans hlo (p19.trans p10).len) b0.rdI b1.rdI b2.rdI (by rw [l0]; exact Nat.le_refl _) (by rw [l1]; exact Nat.le_refl _) (by rw [l1]; exact Nat.le_refl _) (by decide) l0 l1 l1 24 16 rfl rfl
  rw [l0, l1] at fk
  refine Evp.ob fk ?_
  rintro _ ⟨e0, e1, e2, M11, rfl, p11, d0, d1, d2, _⟩
  simp only [ret_int, ret_bool, ret_flt, ret_slc, ret_str, ret_ptr, ret_agg, ret_tup, ob_some, bb_true, bb_false, List.getElem?_cons_zero, List.getElem?_cons_succ, List.length_cons, List.length_nil, Nat.reduceAdd, Nat.reduceLT]
  refine Evp.tt rfl (Evp.tt rfl (Evp.tt rfl (Evp.tt rfl (Evp.tt rfl (Evp.tt rfl ?_)))))
  have p12 := Pre.app M11 [⟨.fx, ([2, 4] : List Int).map (Value.int .u8)⟩]
  have p6b := (((((p3.trans p4).trans p5).trans p6).trans p7).trans p8).trans p9
  refine Evp.ob (eqBytes_ok _ _ _ _ _ _ _ _ (g2.rdI.pre (((p6b.trans p10).trans p11).trans p12)) (RdI.lit (k := .u8) [2, 4]) (by decide)) ?_
  rintro _ rfl
  simp only [ret_int, ret_bool, ret_flt, ret_slc, ret_str, ret_ptr, ret_agg, ret_tup, ob_some, bb_true, bb_false, List.getElem?_cons_zero, List.getElem?_cons_succ, List.length_cons, List.length_nil, Nat.reduceAdd, Nat.reduceLT]
  refine Evp.tt rfl ?_
  have p13 := Pre.app (M11 ++ [⟨.fx, ([2, 4] : List Int).map (Value.int .u8)⟩]) [⟨.fx, ([1, 2, 7, 8] : List Int).map (Value.int .u8)⟩]
  have p6c := ((p6.trans p7).trans p8).trans p9
  refine Evp.ob (eqBytes_ok _ _ _ _ _ _ _ _ (g5.rdI.pre ((((p6c.trans p10).trans p11).trans p12).trans p13)) (RdI.lit (k := .u8) [1, 2, 7, 8]) (by decide)) ?_
  rintro _ rfl
  simp only [ret_int, ret_bool, ret_flt, ret_slc, ret_str, ret_ptr, ret_agg, ret_tup, ob_some, bb_true, bb_false, List.getElem?_cons_zero, List.getElem?_cons_succ, List.length_cons, List.length_nil, Nat.reduceAdd, Nat.reduceLT]
  refine Evp.tt rfl ?_
  have p14' := Pre.app ((M11 ++ [⟨.fx, ([2, 4] : List Int).map (Value.int .u8)⟩]) ++ [⟨.fx, ([1, 2, 7, 8] : List Int).map (Value.int .u8)⟩]) [⟨.fx, ([1, 2, 2, 3, 4, 4, 3, 4, 4] : List Int).map (Value.int .u8)⟩]
  refine Evp.ob (eqBytes_ok _ _ _ _ _ _ _ _ (g7.rdI.pre ((((((p8.trans p9).trans p10).trans p11).trans p12).trans p13).trans p14')) (RdI.lit (k := .u8) [1, 2, 2, 3, 4, 4, 3, 4, 4]) (by decide)) ?_
  rintro _ rfl
  simp only [ret_int, ret_bool, ret_flt, ret_slc, ret_str, ret_ptr, ret_agg, ret_tup, ob_some, bb_true, bb_false, List.getElem?_cons_zero, List.getElem?_cons_succ, List.length_cons, List.length_nil, Nat.reduceAdd, Nat.reduceLT]
  refine Evp.tt rfl (Evp.tt rfl (Evp.tt rfl (Evp.tt rfl ?_)))
  refine Evp.ob (whole_ok ..) ?_
  rintro _ rfl
  simp only [ret_int, ret_bool, ret_flt, ret_slc, ret_str, ret_ptr, ret_agg, ret_tup, ob_some, bb_true, bb_false, List.getElem?_cons_zero, List.getElem?_cons_succ, List.length_cons, List.length_nil, Nat.reduceAdd, Nat.reduceLT]
  refine Evp.ret (Run.ret ⟨_, ?_, ((((p19.trans p10).trans p11).trans p12).trans p13).trans p14'⟩)
  rw [show wholeS ((24 : Nat) : Int) ((16 : Nat) : Int) ((16 * 24 : Nat) : Int) ((24 / 2 : Nat) : Int) ((16 / 2 : Nat) : Int) ((16 / 2 * (24 / 2) : Nat) : Int) ((24 / 2 : Nat) : Int) ((16 / 2 : Nat) : Int) ((16 / 2 * (24 / 2) : Nat) : Int) = 0 from by decide]
  rfl
/-! ### The document's New and At -/
def atS (w h : Int) (xs : List Int) (x y : Int) : Int := if checkS w h xs.length = 0 then pixS w h xs y x else 0
section
variable (lo : Nat) (w h : Int) (A : Option Addr) (c : Nat) (xs : List Int) (x y : Int) (M : Mem)
theorem pat_ok (hx : RdI M .u8 A xs) : Ac P T lo F.plane_At [.agg ⟨[.int .i64 w, .int .i64 h, .slice A xs.length c]⟩, .int .i64 x, .int .i64 y] M fun r => r = (.int .u8 (atS w h xs x y), M) := by
  by_cases hk : checkS w h xs.length = 0
  · unfold atS pixS
    rw [if_pos hk]
    exact at_ok lo w h A c xs x y M hx hk
  · refine Ac.of (Evp.of_eq (fun k => plane_At.entry k ..) ?_)
    refine Evp.ob (check_ok ..) ?_
    rintro _ rfl
    simp only [ret_int, ret_bool, ret_flt, ret_slc, ret_str, ret_ptr, ret_agg, ret_tup, ob_some, bb_true, bb_false, List.getElem?_cons_zero, List.getElem?_cons_succ, List.length_cons, List.length_nil, Nat.reduceAdd, Nat.reduceLT]
    refine Evp.neb (fun _ => Evp.ret (Run.ret ?_)) fun h => absurd h hk
    unfold atS
    rw [if_neg hk]
theorem rat_ok (hx : RdI M .u8 A xs) : Ac P T lo F.zoetroperef05_At [.agg ⟨[.int .i64 w, .int .i64 h, .slice A xs.length c]⟩, .int .i64 x, .int .i64 y] M fun r => r = (.int .u8 (atS w h xs x y), M) := by
  refine Ac.of (Evp.of_eq (fun k => zoetroperef05_At.entry k ..) ?_)
  refine Evp.ob (rcheck_ok ..) ?_
  rintro _ rfl
  simp only [ret_int, ret_bool, ret_flt, ret_slc, ret_str, ret_ptr, ret_agg, ret_tup, ob_some, bb_true, bb_false, List.getElem?_cons_zero, List.getElem?_cons_succ, List.length_cons, List.length_nil, Nat.reduceAdd, Nat.reduceLT]
  refine Evp.neb (fun hk => Evp.ret (Run.ret (by unfold atS; rw [if_neg hk]))) fun hk => ?_
  have hs := checkS_len' hk
  have har := area (w := w) (h := h) (by omega)
  have h1 := clipS_le (v := y) (a := 0) (b := h - 1) (by omega)
  have h2 := clipS_le (v := x) (a := 0) (b := w - 1) (by omega)
  have h3 : clipS y 0 (h - 1) * w ≤ (h - 1) * w := Int.mul_le_mul_of_nonneg_right h1.2 (by omega)
  have h4 : (h - 1) * w = w * h - w := by rw [Int.sub_mul, Int.mul_comm h w]; omega
  have h0 : 0 ≤ clipS y 0 (h - 1) * w := Int.mul_nonneg h1.1 (by omega)
  rw [w64 (x := h - 1) (by omega), w64 (x := w - 1) (by omega)]
  refine Evp.ob (clip_ok ..) ?_
  rintro _ rfl
  simp only [ret_int, ret_bool, ret_flt, ret_slc, ret_str, ret_ptr, ret_agg, ret_tup, ob_some, bb_true, bb_false, List.getElem?_cons_zero, List.getElem?_cons_succ, List.length_cons, List.length_nil, Nat.reduceAdd, Nat.reduceLT]
  refine Evp.ob (clip_ok ..) ?_
  rintro _ rfl
  simp only [ret_int, ret_bool, ret_flt, ret_slc, ret_str, ret_ptr, ret_agg, ret_tup, ob_some, bb_true, bb_false, List.getElem?_cons_zero, List.getElem?_cons_succ, List.length_cons, List.length_nil, Nat.reduceAdd, Nat.reduceLT]
  rw [w64 (x := clipS y 0 (h - 1) * w) (by omega), w64 (by omega)]
  refine Evp.pos (by omega) (Evp.ldI hx (by omega) fun _ _ => ?_)
  refine Evp.ret (Run.ret ?_)
  unfold atS pixS
  rw [if_pos hk]
end
theorem rnew_loop (lo : Nat) (w h v : Int) (n : Nat) (hs : 1 ≤ w ∧ w ≤ 512 ∧ 1 ≤ h ∧ h ≤ 512) (hn : (n : Int) = w * h) (M0 : Mem) (a : Addr) (hlo : lo ≤ M0.length) (u0 u1 : Int) (u2 : Option Addr) (u3 u4 : Nat) : ∀ (d i : Nat) (M : Mem), n - i = d → i ≤ n → Pre M0 M → Buf M0 M a ((fillR n v i).map (Value.int .u8)) →
    Run P T lo F.zoetroperef05_New (zoetroperef05_New.c244 w h v i u0 u1 u2 u3 u4 w h (some a) n n M) fun r => ∃ M', r = (.tuple ⟨[.agg ⟨[.int .i64 w, .int .i64 h, .slice (some a) n n]⟩, .int .i64 0]⟩, M') ∧ Pre M0 M' ∧ Buf M0 M' a ((List.replicate n v).map (Value.int .u8)) := by
  have har := area hs
  intro d
  induction d with
  | zero =>
    intro i M hd hi hp hb
    obtain rfl : i = n := by omega
    refine Run.cut (Evp.of_eq (fun k => zoetroperef05_New.p244 k ..) ?_)
    rw [w64 (x := w * h) (by omega)]
    refine Evp.dec (fun h => absurd h (by omega)) fun _ => ?_
    rw [fillR_full] at hb
    exact Evp.ret (Run.ret ⟨M, rfl, hp, hb⟩)
  | succ d ih =>
    intro i M hd hi hp hb
    refine Run.cut (Evp.of_eq (fun k => zoetroperef05_New.p244 k ..) ?_)
    rw [w64 (x := w * h) (by omega)]
    refine Evp.dec (fun _ => ?_) fun h => absurd h (by omega)
    refine Evp.pos (by omega) (Evp.some rfl ?_)
    obtain ⟨M1, g1, g2, g3, g4, g5⟩ := hb.st (lo := lo) (i := i) (vs := [.int .u8 v]) hp hlo (by simp [fillR_len hi]; omega)
    rw [Int.toNat_natCast]
    refine Evp.some g1 ?_
    have := fillR_set (n := n) (i := i) (m := 1) (v := v) (by omega)
    rw [show ((List.replicate 1 v).map (Value.int .u8)) = [.int .u8 v] from rfl] at this
    rw [this] at g2
    rw [w64 (by omega)]
    exact Evp.ret (ih (i + 1) M1 (by omega) (by omega) g3 g2)
theorem rnew_ok (lo : Nat) (w h v : Int) (M : Mem) (hlo : lo ≤ M.length) :
    Ac P T lo F.zoetroperef05_New [.int .i64 w, .int .i64 h, .int .u8 v] M fun r => Pre M r.2 ∧ if 1 ≤ w ∧ w ≤ 512 ∧ 1 ≤ h ∧ h ≤ 512 then ∃ a, r.1 = .tuple ⟨[.agg ⟨[.int .i64 w, .int .i64 h, .slice (some a) (w * h).toNat (w * h).toNat]⟩, .int .i64 0]⟩ ∧ Buf M r.2 a ((List.replicate (w * h).toNat v).map (Value.int .u8))
      else r.1 = .tuple ⟨[.agg ⟨[.int .i64 0, .int .i64 0, .slice none 0 0]⟩, .int .i64 2]⟩ := by
  have bad : ¬ (1 ≤ w ∧ w ≤ 512 ∧ 1 ≤ h ∧ h ≤ 512) → Run P T lo F.zoetroperef05_New (.ret (.tuple ⟨[.agg ⟨[.int .i64 0, .int .i64 0, .slice none 0 0]⟩, .int .i64 2]⟩) M) fun r => Pre M r.2 ∧ if 1 ≤ w ∧ w ≤ 512 ∧ 1 ≤ h ∧ h ≤ 512 then ∃ a, r.1 = .tuple ⟨[.agg ⟨[.int .i64 w, .int .i64 h, .slice (some a) (w * h).toNat (w * h).toNat]⟩, .int .i64 0]⟩ ∧ Buf M r.2 a ((List.replicate (w * h).toNat v).map (Value.int .u8))
      else r.1 = .tuple ⟨[.agg ⟨[.int .i64 0, .int .i64 0, .slice none 0 0]⟩, .int .i64 2]⟩ := fun h => Run.ret ⟨Pre.refl _, by rw [if_neg h]⟩
  refine Ac.of (Evp.of_eq (fun k => zoetroperef05_New.entry k ..) ?_)
  refine Evp.dec (fun h1 => Evp.ret (bad (by omega))) fun h1 => ?_
  refine Evp.dec (fun h2 => Evp.ret (bad (by omega))) fun h2 => ?_
  refine Evp.dec (fun h3 => Evp.ret (bad (by omega))) fun h3 => ?_
  refine Evp.dec (fun h4 => Evp.ret (bad (by omega))) fun h4 => ?_
  have hs : 1 ≤ w ∧ w ≤ 512 ∧ 1 ≤ h ∧ h ≤ 512 := by omega
  have har := area hs
  rw [w64 (x := w * h) (by omega)]
  refine Evp.pos ⟨by omega, by show (w * h).toNat * 1 ≤ 140737488355328; omega⟩ ?_
  refine Evp.ret ((rnew_loop lo w h v (w * h).toNat hs (Int.toNat_of_nonneg (by omega)) M ⟨M.length, 0, none⟩ hlo 0 0 none 0 0 _ 0 _ rfl (by omega) (Pre.app _ _) ?_).mono ?_)
  · rw [show zerosL [.int .u8 0] (w * h).toNat = (fillR (w * h).toNat v 0).map (Value.int .u8) by rw [zerosL_one]; simp [fillR]]
    exact Buf.push (Pre.refl M)
  · rintro _ ⟨M', rfl, hp, hb⟩
    refine ⟨hp, ?_⟩
    rw [if_pos hs]
    exact ⟨_, rfl, hb⟩
/-! ### What was told is written over -/
theorem spoil_loop (lo : Nat) (w h : Int) (a : Addr) (c : Nat) (M0 : Mem) (hlo : lo ≤ M0.length) : ∀ (d i : Nat) (xs : List Int) (M : Mem), xs.length - i = d → i ≤ xs.length → xs.length ≤ 140737488351232 → Pre M0 M → Buf M0 M a (xs.map (Value.int .u8)) →
    Run P T lo F.zoetropelaw05_spoil (zoetropelaw05_spoil.c28 i w h (some a) xs.length c M) fun r => ∃ M', r = (.tuple ⟨[]⟩, M') ∧ Pre M0 M' ∧ Keep (some a) M M' := by
  intro d
  induction d with
  | zero =>
    intro i xs M hd hi hz hp hb
    refine Run.cut (Evp.of_eq (fun k => zoetropelaw05_spoil.p28 k ..) ?_)
    exact Evp.dec (fun h => absurd h (by omega)) fun _ => Evp.ret (Run.ret ⟨M, rfl, hp, fun b k hb _ => hb⟩)
  | succ d ih =>
    intro i xs M hd hi hz hp hb
    refine Run.cut (Evp.of_eq (fun k => zoetropelaw05_spoil.p28 k ..) ?_)
    refine Evp.dec (fun _ => ?_) fun h => absurd h (by omega)
    refine Evp.pos (by omega) ?_
    simp only [Int.toNat_natCast]
    refine Evp.ldI hb.rdI (by omega) fun _ _ => ?_
    refine Evp.pos (by omega) (Evp.some rfl ?_)
    obtain ⟨M2, h1, h2, h3, h4, h5⟩ := hb.st (lo := lo) (i := i) (vs := [.int .u8 (xorI .u8 (xs.getD i 0) 255)]) hp hlo (by simp; omega)
    refine Evp.some h1 ?_
    rw [setL_one, set_map] at h2
    rw [w64 (by omega)]
    have := ih (i + 1) (xs.set i (xorI .u8 (xs.getD i 0) 255)) M2 (by simp; omega) (by simp; omega) (by simpa using hz) h3 h2
    rw [List.length_set] at this
    refine Evp.ret (this.mono ?_)
    rintro _ ⟨M', rfl, g1, g2⟩
    exact ⟨M', rfl, g1, fun b k hb hne => g2 b k (h4 b k hb hne) hne⟩
/-- A list that may be written over: an empty one, or one in memory of its own. -/
def OwnM (M0 M : Mem) (A : Option Addr) (xs : List Int) : Prop := xs = [] ∨ ∃ a, A = some a ∧ Buf M0 M a (xs.map (Value.int .u8))
theorem OwnM.rd {M0 M : Mem} {A : Option Addr} {xs : List Int} (h : OwnM M0 M A xs) : RdI M .u8 A xs := by
  rcases h with rfl | ⟨a, rfl, h⟩
  · exact RdI.nil
  · exact h.rdI
theorem spoil_ok (lo : Nat) (w h : Int) (A : Option Addr) (c : Nat) (xs : List Int) (M0 M : Mem) (hlo : lo ≤ M0.length) (hp : Pre M0 M) (hz : xs.length ≤ 140737488351232) (hA : OwnM M0 M A xs) :
    Ac P T lo F.zoetropelaw05_spoil [.agg ⟨[.int .i64 w, .int .i64 h, .slice A xs.length c]⟩] M fun r => ∃ M', r = (.tuple ⟨[]⟩, M') ∧ Pre M0 M' ∧ Keep A M M' := by
  refine Ac.of (Evp.of_eq (fun k => zoetropelaw05_spoil.entry k ..) ?_)
  rcases hA with rfl | ⟨a, rfl, hb⟩
  · refine Evp.ret ?_
    refine Run.cut (Evp.of_eq (fun k => zoetropelaw05_spoil.p28 k ..) ?_)
    exact Evp.ff rfl (Evp.ret (Run.ret ⟨M, rfl, hp, fun b k hb _ => hb⟩))
  · exact Evp.ret (spoil_loop lo w h a c M0 hlo _ 0 xs M rfl (by omega) hz hp hb)
theorem told_ok (lo : Nat) (w h e : Int) (A B : Option Addr) (c c' : Nat) (xs : List Int) (M0 M : Mem) (hlo : lo ≤ M0.length) (hp : Pre M0 M) (hz : xs.length ≤ 140737488351232) (hA : OwnM M0 M A xs) (hB : RdI M .u8 B xs) :
    Ac P T lo F.zoetropelaw05_told [.agg ⟨[.int .i64 w, .int .i64 h, .slice A xs.length c]⟩, .int .i64 e, .agg ⟨[.int .i64 w, .int .i64 h, .slice B xs.length c']⟩, .int .i64 e] M fun r => ∃ M', r = (.bool true, M') ∧ Pre M0 M' := by
  refine Ac.of (Evp.of_eq (fun k => zoetropelaw05_told.entry k ..) ?_)
  refine Evp.eqb (fun _ => ?_) fun h => absurd rfl h
  refine Evp.ob (rsame_ok _ _ _ _ _ _ _ _ _ _ _ _ hA.rd hB hz) ?_
  rintro _ rfl
  simp only [ret_int, ret_bool, ret_flt, ret_slc, ret_str, ret_ptr, ret_agg, ret_tup, ob_some, bb_true, bb_false, List.getElem?_cons_zero, List.getElem?_cons_succ, List.length_cons, List.length_nil, Nat.reduceAdd, Nat.reduceLT]
  refine Evp.ob (spoil_ok lo w h A c xs M0 M hlo hp hz hA) ?_
  rintro _ ⟨M', rfl, p, _⟩
  simp only [ret_int, ret_bool, ret_flt, ret_slc, ret_str, ret_ptr, ret_agg, ret_tup, ob_some, bb_true, bb_false, List.getElem?_cons_zero, List.getElem?_cons_succ, List.length_cons, List.length_nil, Nat.reduceAdd, Nat.reduceLT]
  refine Evp.ret (Run.ret ⟨M', ?_, p⟩)
  rw [decide_eq_true ⟨trivial, trivial, trivial⟩]
end Go.Zt
