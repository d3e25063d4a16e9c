/- What is padded is cut back. -/
import Derived.Test.YtkmakjapgkfdnaaFn
set_option linter.unusedVariables false
set_option linter.unusedSimpArgs false
set_option maxRecDepth 100000
namespace Go.Zt
theorem clip_clip {v a b : Int} (ha : 0 ≤ a) (hab : a ≤ b) : clipS (clipS v 0 b) 0 a = clipS v 0 a := by
  unfold clipS
  by_cases h1 : v < 0
  · rw [if_pos h1, if_pos h1, if_neg (by omega), if_neg (by omega)]
  · rw [if_neg h1, if_neg h1]
    by_cases h2 : v > b
    · rw [if_pos h2, if_neg (by omega), if_pos (by omega : v > a)]
      by_cases h3 : b > a
      · rw [if_pos h3]
      · rw [if_neg h3]; omega
    · rw [if_neg h2, if_neg h1]
theorem back_pix {w h W H : Nat} {xs : List Int} (hw : 1 ≤ w) (hh : 1 ≤ h) (hW : w ≤ W) (hH : h ≤ H) (v u : Int) : pixS W H (sizedS w h xs W (H * W)) v u = pixS w h xs v u := by
  have h1 := clipS_le (v := v) (a := 0) (b := (H : Int) - 1) (by omega)
  have h2 := clipS_le (v := u) (a := 0) (b := (W : Int) - 1) (by omega)
  have e1 := clip_clip (v := v) (a := (h : Int) - 1) (b := (H : Int) - 1) (by omega) (by omega)
  have e2 := clip_clip (v := u) (a := (w : Int) - 1) (b := (W : Int) - 1) (by omega) (by omega)
  obtain ⟨cy, hcy⟩ := Int.eq_ofNat_of_zero_le h1.1
  obtain ⟨cx, hcx⟩ := Int.eq_ofNat_of_zero_le h2.1
  rw [hcy] at e1
  rw [hcx] at e2
  obtain ⟨d1, d2⟩ := dm (W := W) (r := cy) (s := cx) (by omega)
  have hin := dm_in (W := W) (h := H) (r := cy) (s := cx) (by omega) (by omega)
  have : pixS W H (sizedS w h xs W (H * W)) v u = pixS w h xs (cy : Nat) (cx : Nat) := by
    conv => lhs; unfold pixS
    rw [hcy, hcx, ← Int.natCast_mul, ← Int.natCast_add, Int.toNat_natCast]
    unfold sizedS
    rw [getD_map_range hin, d1, d2]
  rw [this]
  unfold pixS
  rw [e1, e2]
theorem pix_self {w h : Nat} {xs : List Int} (hn : xs.length = w * h) {q : Nat} (hq : q < h * w) : pixS w h xs (q / w : Nat) (q % w : Nat) = xs.getD q 0 := by
  obtain ⟨q0, q1, q2, q3⟩ := dm_lt hq
  rw [pix_nat (by omega) (by have := Nat.lt_of_le_of_lt (Nat.zero_le _) q1; omega)]
  have m1 : min (q / w) (h - 1) = q / w := by generalize q / w = u at *; omega
  have m2 : min (q % w) (w - 1) = q % w := by generalize q % w = u at *; omega
  rw [m1, m2, ← q3]
theorem sized_self {w h : Nat} {xs : List Int} (hn : xs.length = w * h) : sizedS w h xs w (h * w) = xs := by
  apply ext_getD (by rw [sizedS_len, hn, Nat.mul_comm])
  intro q hq
  rw [sizedS_len] at hq
  unfold sizedS
  rw [getD_map_range hq, pix_self hn hq]
theorem sized_back {w h W H : Nat} {xs : List Int} (hn : xs.length = w * h) (hw : 1 ≤ w) (hh : 1 ≤ h) (hW : w ≤ W) (hH : h ≤ H) : sizedS W H (sizedS w h xs W (H * W)) w (h * w) = xs := by
  apply ext_getD (by rw [sizedS_len, hn, Nat.mul_comm])
  intro q hq
  rw [sizedS_len] at hq
  rw [show (sizedS W H (sizedS w h xs W (H * W)) w (h * w)).getD q 0 = pixS W H (sizedS w h xs W (H * W)) (q / w : Nat) (q % w : Nat) from getD_map_range hq, back_pix hw hh hW hH, pix_self hn hq]
section
variable {x y : Int} {lo : Nat} {M : Mem} {Q : Value × Mem → Prop}
variable {fw0 fh0 : Int} {fA0 : Option Addr} {fn0 fc0 : Nat}
variable {fw1 fh1 : Int} {fA1 : Option Addr} {fn1 fc1 : Nat}
variable {fw2 fh2 : Int} {fA2 : Option Addr} {fn2 fc2 : Nat}
variable {cw0 ch0 : Int} {cA0 : Option Addr} {cn0 cc0 : Nat}
variable {cw1 ch1 : Int} {cA1 : Option Addr} {cn1 cc1 : Nat}
variable {cw2 ch2 : Int} {cA2 : Option Addr} {cn2 cc2 : Nat}
variable {aw0 ah0 : Int} {aA0 : Option Addr} {an0 ac0 : Nat}
variable {aw1 ah1 : Int} {aA1 : Option Addr} {an1 ac1 : Nat}
variable {aw2 ah2 : Int} {aA2 : Option Addr} {an2 ac2 : Nat}
variable {gw0 gh0 : Int} {gA0 : Option Addr} {gn0 gc0 : Nat}
variable {gw1 gh1 : Int} {gA1 : Option Addr} {gn1 gc1 : Nat}
variable {gw2 gh2 : Int} {gA2 : Option Addr} {gn2 gc2 : Nat}
variable {pw ph : Int} {pA : Option Addr} {pxs : List Int} {pc : Nat} {cW cH : Int} {cA : Option Addr} {cxs : List Int} {cc : Nat} {aA gA : Option Addr} {ac gc : Nat}
theorem back_in0 (hk : checkS pw ph pxs.length = 0) (hkc : checkS cW cH cxs.length = 0) (hp : RdI M .u8 pA pxs) (hc : RdI M .u8 cA cxs) (hpc : ∀ v u, pixS cW cH cxs v u = pixS pw ph pxs v u)
    (hnext : Run P T lo F.zoetropelaw05_PlaneBack (zoetropelaw05_PlaneBack.c4084 x y 1 pw ph pA pxs.length pc fw1 fh1 fA1 fn1 fc1 fw2 fh2 fA2 fn2 fc2 cW cH cA cxs.length cc cw1 ch1 cA1 cn1 cc1 cw2 ch2 cA2 cn2 cc2 pw ph aA pxs.length ac aw1 ah1 aA1 an1 ac1 aw2 ah2 aA2 an2 ac2 cW cH gA cxs.length gc gw1 gh1 gA1 gn1 gc1 gw2 gh2 gA2 gn2 gc2 M) Q) :
    ∀ (d : Nat) (k : Int), (12 - k).toNat = d → -3 ≤ k → k ≤ 12 → Run P T lo F.zoetropelaw05_PlaneBack (zoetropelaw05_PlaneBack.c1045660 x y 0 k pw ph pA pxs.length pc fw1 fh1 fA1 fn1 fc1 fw2 fh2 fA2 fn2 fc2 cW cH cA cxs.length cc cw1 ch1 cA1 cn1 cc1 cw2 ch2 cA2 cn2 cc2 pw ph aA pxs.length ac aw1 ah1 aA1 an1 ac1 aw2 ah2 aA2 an2 ac2 cW cH gA cxs.length gc gw1 gh1 gA1 gn1 gc1 gw2 gh2 gA2 gn2 gc2 pw ph pA pxs.length pc M) Q := by
  have hs := checkS_len' hk
  have har := area (w := pw) (h := ph) (by omega)
  intro d
  induction d with
  | zero =>
    intro k hd h1 h2
    obtain rfl : k = 12 := by omega
    refine Run.cut (Evp.of_eq (fun k => zoetropelaw05_PlaneBack.p1045660 k ..) ?_)
    refine Evp.ff rfl ?_
    rw [show IntKind.i64.wrap (0 + 1) = 1 from by decide]
    exact Evp.ret hnext
  | succ d ih =>
    intro k hd h1 h2
    refine Run.cut (Evp.of_eq (fun k => zoetropelaw05_PlaneBack.p1045660 k ..) ?_)
    refine Evp.dec (fun _ => ?_) fun h => absurd h (by omega)
    refine Evp.ob (bring_ok _ _ _ _ (by decide)) ?_
    rintro _ rfl
    simp only [ret_int, ret_bool, ret_flt, ret_slc, ret_str, ret_ptr, ret_agg, ret_tup, ob_some, bb_true, bb_false, List.getElem?_cons_zero, List.getElem?_cons_succ, List.length_cons, List.length_nil, Nat.reduceAdd, Nat.reduceLT]
    refine Evp.ob (bring_ok _ _ _ _ (by decide)) ?_
    rintro _ rfl
    simp only [ret_int, ret_bool, ret_flt, ret_slc, ret_str, ret_ptr, ret_agg, ret_tup, ob_some, bb_true, bb_false, List.getElem?_cons_zero, List.getElem?_cons_succ, List.length_cons, List.length_nil, Nat.reduceAdd, Nat.reduceLT]
    have b1 := bringS_lt (i := x) (n := 300) (by decide)
    have b2 := bringS_lt (i := y) (n := 300) (by decide)
    rw [w64 (x := bringS x 300 + k) (by omega), w64 (x := bringS y 300 - k) (by omega)]
    generalize bringS x 300 + k = u
    generalize bringS y 300 - k = v
    have g1 := clipS_le (v := v) (a := 0) (b := ph - 1) (by omega)
    have g2 := clipS_le (v := u) (a := 0) (b := pw - 1) (by omega)
    have g3 : clipS v 0 (ph - 1) * pw ≤ (ph - 1) * pw := Int.mul_le_mul_of_nonneg_right g1.2 (by omega)
    have g4 : (ph - 1) * pw = pw * ph - pw := by rw [Int.sub_mul, Int.mul_comm ph pw]; omega
    have g0 : 0 ≤ clipS v 0 (ph - 1) * pw := Int.mul_nonneg g1.1 (by omega)
    rw [w64 (x := ph - 1) (by omega), w64 (x := pw - 1) (by omega), minmax_clip (by omega), minmax_clip (by omega), w64 (x := clipS v 0 (ph - 1) * pw) (by omega), w64 (x := clipS v 0 (ph - 1) * pw + clipS u 0 (pw - 1)) (by omega)]
    refine Evp.pos (by omega) (Evp.ldI hp (by omega) fun _ _ => ?_)
    refine Evp.ob (pat_ok _ _ _ _ _ _ _ _ _ hp) ?_
    rintro _ rfl
    simp only [ret_int, ret_bool, ret_flt, ret_slc, ret_str, ret_ptr, ret_agg, ret_tup, ob_some, bb_true, bb_false, List.getElem?_cons_zero, List.getElem?_cons_succ, List.length_cons, List.length_nil, Nat.reduceAdd, Nat.reduceLT]
    have ea : atS pw ph pxs u v = pxs.getD (clipS v 0 (ph - 1) * pw + clipS u 0 (pw - 1)).toNat 0 := by unfold atS pixS; rw [if_pos hk]
    have ec : atS cW cH cxs u v = pxs.getD (clipS v 0 (ph - 1) * pw + clipS u 0 (pw - 1)).toNat 0 := by unfold atS; rw [if_pos hkc, hpc]; rfl
    refine Evp.ff (by rw [ea]; simp) ?_
    refine Evp.pos (by decide) (Evp.some rfl (Evp.some rfl (Evp.some rfl ?_)))
    refine Evp.ob (pat_ok _ _ _ _ _ _ _ _ _ hc) ?_
    rintro _ rfl
    simp only [ret_int, ret_bool, ret_flt, ret_slc, ret_str, ret_ptr, ret_agg, ret_tup, ob_some, bb_true, bb_false, List.getElem?_cons_zero, List.getElem?_cons_succ, List.length_cons, List.length_nil, Nat.reduceAdd, Nat.reduceLT]
    refine Evp.ff (by rw [ec]; simp) ?_
    rw [w64 (x := k + 1) (by omega)]
    exact Evp.ret (ih (k + 1) (by omega) (by omega) (by omega))
theorem back_0 (hk : checkS pw ph pxs.length = 0) (hkc : checkS cW cH cxs.length = 0) (hp : RdI M .u8 pA pxs) (hc : RdI M .u8 cA cxs) (ha : RdI M .u8 aA pxs) (hg : RdI M .u8 gA cxs) (hpc : ∀ v u, pixS cW cH cxs v u = pixS pw ph pxs v u)
    (hnext : Run P T lo F.zoetropelaw05_PlaneBack (zoetropelaw05_PlaneBack.c4084 x y 1 pw ph pA pxs.length pc fw1 fh1 fA1 fn1 fc1 fw2 fh2 fA2 fn2 fc2 cW cH cA cxs.length cc cw1 ch1 cA1 cn1 cc1 cw2 ch2 cA2 cn2 cc2 pw ph aA pxs.length ac aw1 ah1 aA1 an1 ac1 aw2 ah2 aA2 an2 ac2 cW cH gA cxs.length gc gw1 gh1 gA1 gn1 gc1 gw2 gh2 gA2 gn2 gc2 M) Q) :
    Run P T lo F.zoetropelaw05_PlaneBack (zoetropelaw05_PlaneBack.c4084 x y 0 pw ph pA pxs.length pc fw1 fh1 fA1 fn1 fc1 fw2 fh2 fA2 fn2 fc2 cW cH cA cxs.length cc cw1 ch1 cA1 cn1 cc1 cw2 ch2 cA2 cn2 cc2 pw ph aA pxs.length ac aw1 ah1 aA1 an1 ac1 aw2 ah2 aA2 an2 ac2 cW cH gA cxs.length gc gw1 gh1 gA1 gn1 gc1 gw2 gh2 gA2 gn2 gc2 M) Q := by
  have l1 := (checkS_len' hk).2.2.2.2
  have l2 := (checkS_len' hkc).2.2.2.2
  have r1 := area (w := pw) (h := ph) (by have := checkS_len' hk; omega)
  have r2 := area (w := cW) (h := cH) (by have := checkS_len' hkc; omega)
  refine Run.cut (Evp.of_eq (fun k => zoetropelaw05_PlaneBack.p4084 k ..) ?_)
  refine Evp.tt rfl (Evp.pos (by decide) (Evp.some rfl (Evp.some rfl (Evp.some rfl ?_))))
  refine Evp.ob (solid_ok _ _ _ _ _ _ _ hk) ?_
  rintro _ rfl
  simp only [ret_int, ret_bool, ret_flt, ret_slc, ret_str, ret_ptr, ret_agg, ret_tup, ob_some, bb_true, bb_false, List.getElem?_cons_zero, List.getElem?_cons_succ, List.length_cons, List.length_nil, Nat.reduceAdd, Nat.reduceLT]
  refine Evp.ff rfl (Evp.pos (by decide) (Evp.some rfl (Evp.some rfl (Evp.some rfl ?_))))
  refine Evp.ob (same_ok _ _ _ _ _ _ _ _ _ _ _ _ ha hp (by omega)) ?_
  rintro _ rfl
  simp only [ret_int, ret_bool, ret_flt, ret_slc, ret_str, ret_ptr, ret_agg, ret_tup, ob_some, bb_true, bb_false, List.getElem?_cons_zero, List.getElem?_cons_succ, List.length_cons, List.length_nil, Nat.reduceAdd, Nat.reduceLT]
  refine Evp.ff (by simp) (Evp.pos (by decide) (Evp.some rfl (Evp.some rfl (Evp.some rfl ?_))))
  refine Evp.pos (by decide) (Evp.some rfl (Evp.some rfl (Evp.some rfl ?_)))
  refine Evp.ob (same_ok _ _ _ _ _ _ _ _ _ _ _ _ hg hc (by omega)) ?_
  rintro _ rfl
  simp only [ret_int, ret_bool, ret_flt, ret_slc, ret_str, ret_ptr, ret_agg, ret_tup, ob_some, bb_true, bb_false, List.getElem?_cons_zero, List.getElem?_cons_succ, List.length_cons, List.length_nil, Nat.reduceAdd, Nat.reduceLT]
  refine Evp.ff (by simp) ?_
  refine Evp.ret (back_in0 hk hkc hp hc hpc hnext _ (-3) rfl (by omega) (by omega))
theorem back_in1 (hk : checkS pw ph pxs.length = 0) (hkc : checkS cW cH cxs.length = 0) (hp : RdI M .u8 pA pxs) (hc : RdI M .u8 cA cxs) (hpc : ∀ v u, pixS cW cH cxs v u = pixS pw ph pxs v u)
    (hnext : Run P T lo F.zoetropelaw05_PlaneBack (zoetropelaw05_PlaneBack.c4084 x y 2 fw0 fh0 fA0 fn0 fc0 pw ph pA pxs.length pc fw2 fh2 fA2 fn2 fc2 cw0 ch0 cA0 cn0 cc0 cW cH cA cxs.length cc cw2 ch2 cA2 cn2 cc2 aw0 ah0 aA0 an0 ac0 pw ph aA pxs.length ac aw2 ah2 aA2 an2 ac2 gw0 gh0 gA0 gn0 gc0 cW cH gA cxs.length gc gw2 gh2 gA2 gn2 gc2 M) Q) :
    ∀ (d : Nat) (k : Int), (12 - k).toNat = d → -3 ≤ k → k ≤ 12 → Run P T lo F.zoetropelaw05_PlaneBack (zoetropelaw05_PlaneBack.c1045660 x y 1 k fw0 fh0 fA0 fn0 fc0 pw ph pA pxs.length pc fw2 fh2 fA2 fn2 fc2 cw0 ch0 cA0 cn0 cc0 cW cH cA cxs.length cc cw2 ch2 cA2 cn2 cc2 aw0 ah0 aA0 an0 ac0 pw ph aA pxs.length ac aw2 ah2 aA2 an2 ac2 gw0 gh0 gA0 gn0 gc0 cW cH gA cxs.length gc gw2 gh2 gA2 gn2 gc2 pw ph pA pxs.length pc M) Q := by
  have hs := checkS_len' hk
  have har := area (w := pw) (h := ph) (by omega)
  intro d
  induction d with
  | zero =>
    intro k hd h1 h2
    obtain rfl : k = 12 := by omega
    refine Run.cut (Evp.of_eq (fun k => zoetropelaw05_PlaneBack.p1045660 k ..) ?_)
    refine Evp.ff rfl ?_
    rw [show IntKind.i64.wrap (1 + 1) = 2 from by decide]
    exact Evp.ret hnext
  | succ d ih =>
    intro k hd h1 h2
    refine Run.cut (Evp.of_eq (fun k => zoetropelaw05_PlaneBack.p1045660 k ..) ?_)
    refine Evp.dec (fun _ => ?_) fun h => absurd h (by omega)
    refine Evp.ob (bring_ok _ _ _ _ (by decide)) ?_
    rintro _ rfl
    simp only [ret_int, ret_bool, ret_flt, ret_slc, ret_str, ret_ptr, ret_agg, ret_tup, ob_some, bb_true, bb_false, List.getElem?_cons_zero, List.getElem?_cons_succ, List.length_cons, List.length_nil, Nat.reduceAdd, Nat.reduceLT]
    refine Evp.ob (bring_ok _ _ _ _ (by decide)) ?_
    rintro _ rfl
    simp only [ret_int, ret_bool, ret_flt, ret_slc, ret_str, ret_ptr, ret_agg, ret_tup, ob_some, bb_true, bb_false, List.getElem?_cons_zero, List.getElem?_cons_succ, List.length_cons, List.length_nil, Nat.reduceAdd, Nat.reduceLT]
    have b1 := bringS_lt (i := x) (n := 300) (by decide)
    have b2 := bringS_lt (i := y) (n := 300) (by decide)
    rw [w64 (x := bringS x 300 + k) (by omega), w64 (x := bringS y 300 - k) (by omega)]
    generalize bringS x 300 + k = u
    generalize bringS y 300 - k = v
    have g1 := clipS_le (v := v) (a := 0) (b := ph - 1) (by omega)
    have g2 := clipS_le (v := u) (a := 0) (b := pw - 1) (by omega)
    have g3 : clipS v 0 (ph - 1) * pw ≤ (ph - 1) * pw := Int.mul_le_mul_of_nonneg_right g1.2 (by omega)
    have g4 : (ph - 1) * pw = pw * ph - pw := by rw [Int.sub_mul, Int.mul_comm ph pw]; omega
    have g0 : 0 ≤ clipS v 0 (ph - 1) * pw := Int.mul_nonneg g1.1 (by omega)
    rw [w64 (x := ph - 1) (by omega), w64 (x := pw - 1) (by omega), minmax_clip (by omega), minmax_clip (by omega), w64 (x := clipS v 0 (ph - 1) * pw) (by omega), w64 (x := clipS v 0 (ph - 1) * pw + clipS u 0 (pw - 1)) (by omega)]
    refine Evp.pos (by omega) (Evp.ldI hp (by omega) fun _ _ => ?_)
    refine Evp.ob (pat_ok _ _ _ _ _ _ _ _ _ hp) ?_
    rintro _ rfl
    simp only [ret_int, ret_bool, ret_flt, ret_slc, ret_str, ret_ptr, ret_agg, ret_tup, ob_some, bb_true, bb_false, List.getElem?_cons_zero, List.getElem?_cons_succ, List.length_cons, List.length_nil, Nat.reduceAdd, Nat.reduceLT]
    have ea : atS pw ph pxs u v = pxs.getD (clipS v 0 (ph - 1) * pw + clipS u 0 (pw - 1)).toNat 0 := by unfold atS pixS; rw [if_pos hk]
    have ec : atS cW cH cxs u v = pxs.getD (clipS v 0 (ph - 1) * pw + clipS u 0 (pw - 1)).toNat 0 := by unfold atS; rw [if_pos hkc, hpc]; rfl
    refine Evp.ff (by rw [ea]; simp) ?_
    refine Evp.pos (by decide) (Evp.some rfl (Evp.some rfl (Evp.some rfl ?_)))
    refine Evp.ob (pat_ok _ _ _ _ _ _ _ _ _ hc) ?_
    rintro _ rfl
    simp only [ret_int, ret_bool, ret_flt, ret_slc, ret_str, ret_ptr, ret_agg, ret_tup, ob_some, bb_true, bb_false, List.getElem?_cons_zero, List.getElem?_cons_succ, List.length_cons, List.length_nil, Nat.reduceAdd, Nat.reduceLT]
    refine Evp.ff (by rw [ec]; simp) ?_
    rw [w64 (x := k + 1) (by omega)]
    exact Evp.ret (ih (k + 1) (by omega) (by omega) (by omega))
theorem back_1 (hk : checkS pw ph pxs.length = 0) (hkc : checkS cW cH cxs.length = 0) (hp : RdI M .u8 pA pxs) (hc : RdI M .u8 cA cxs) (ha : RdI M .u8 aA pxs) (hg : RdI M .u8 gA cxs) (hpc : ∀ v u, pixS cW cH cxs v u = pixS pw ph pxs v u)
    (hnext : Run P T lo F.zoetropelaw05_PlaneBack (zoetropelaw05_PlaneBack.c4084 x y 2 fw0 fh0 fA0 fn0 fc0 pw ph pA pxs.length pc fw2 fh2 fA2 fn2 fc2 cw0 ch0 cA0 cn0 cc0 cW cH cA cxs.length cc cw2 ch2 cA2 cn2 cc2 aw0 ah0 aA0 an0 ac0 pw ph aA pxs.length ac aw2 ah2 aA2 an2 ac2 gw0 gh0 gA0 gn0 gc0 cW cH gA cxs.length gc gw2 gh2 gA2 gn2 gc2 M) Q) :
    Run P T lo F.zoetropelaw05_PlaneBack (zoetropelaw05_PlaneBack.c4084 x y 1 fw0 fh0 fA0 fn0 fc0 pw ph pA pxs.length pc fw2 fh2 fA2 fn2 fc2 cw0 ch0 cA0 cn0 cc0 cW cH cA cxs.length cc cw2 ch2 cA2 cn2 cc2 aw0 ah0 aA0 an0 ac0 pw ph aA pxs.length ac aw2 ah2 aA2 an2 ac2 gw0 gh0 gA0 gn0 gc0 cW cH gA cxs.length gc gw2 gh2 gA2 gn2 gc2 M) Q := by
  have l1 := (checkS_len' hk).2.2.2.2
  have l2 := (checkS_len' hkc).2.2.2.2
  have r1 := area (w := pw) (h := ph) (by have := checkS_len' hk; omega)
  have r2 := area (w := cW) (h := cH) (by have := checkS_len' hkc; omega)
  refine Run.cut (Evp.of_eq (fun k => zoetropelaw05_PlaneBack.p4084 k ..) ?_)
  refine Evp.tt rfl (Evp.pos (by decide) (Evp.some rfl (Evp.some rfl (Evp.some rfl ?_))))
  refine Evp.ob (solid_ok _ _ _ _ _ _ _ hk) ?_
  rintro _ rfl
  simp only [ret_int, ret_bool, ret_flt, ret_slc, ret_str, ret_ptr, ret_agg, ret_tup, ob_some, bb_true, bb_false, List.getElem?_cons_zero, List.getElem?_cons_succ, List.length_cons, List.length_nil, Nat.reduceAdd, Nat.reduceLT]
  refine Evp.ff rfl (Evp.pos (by decide) (Evp.some rfl (Evp.some rfl (Evp.some rfl ?_))))
  refine Evp.ob (same_ok _ _ _ _ _ _ _ _ _ _ _ _ ha hp (by omega)) ?_
  rintro _ rfl
  simp only [ret_int, ret_bool, ret_flt, ret_slc, ret_str, ret_ptr, ret_agg, ret_tup, ob_some, bb_true, bb_false, List.getElem?_cons_zero, List.getElem?_cons_succ, List.length_cons, List.length_nil, Nat.reduceAdd, Nat.reduceLT]
  refine Evp.ff (by simp) (Evp.pos (by decide) (Evp.some rfl (Evp.some rfl (Evp.some rfl ?_))))
  refine Evp.pos (by decide) (Evp.some rfl (Evp.some rfl (Evp.some rfl ?_)))
  refine Evp.ob (same_ok _ _ _ _ _ _ _ _ _ _ _ _ hg hc (by omega)) ?_
  rintro _ rfl
  simp only [ret_int, ret_bool, ret_flt, ret_slc, ret_str, ret_ptr, ret_agg, ret_tup, ob_some, bb_true, bb_false, List.getElem?_cons_zero, List.getElem?_cons_succ, List.length_cons, List.length_nil, Nat.reduceAdd, Nat.reduceLT]
  refine Evp.ff (by simp) ?_
  refine Evp.ret (back_in1 hk hkc hp hc hpc hnext _ (-3) rfl (by omega) (by omega))
theorem back_in2 (hk : checkS pw ph pxs.length = 0) (hkc : checkS cW cH cxs.length = 0) (hp : RdI M .u8 pA pxs) (hc : RdI M .u8 cA cxs) (hpc : ∀ v u, pixS cW cH cxs v u = pixS pw ph pxs v u)
    (hnext : Run P T lo F.zoetropelaw05_PlaneBack (zoetropelaw05_PlaneBack.c4084 x y 3 fw0 fh0 fA0 fn0 fc0 fw1 fh1 fA1 fn1 fc1 pw ph pA pxs.length pc cw0 ch0 cA0 cn0 cc0 cw1 ch1 cA1 cn1 cc1 cW cH cA cxs.length cc aw0 ah0 aA0 an0 ac0 aw1 ah1 aA1 an1 ac1 pw ph aA pxs.length ac gw0 gh0 gA0 gn0 gc0 gw1 gh1 gA1 gn1 gc1 cW cH gA cxs.length gc M) Q) :
    ∀ (d : Nat) (k : Int), (12 - k).toNat = d → -3 ≤ k → k ≤ 12 → Run P T lo F.zoetropelaw05_PlaneBack (zoetropelaw05_PlaneBack.c1045660 x y 2 k fw0 fh0 fA0 fn0 fc0 fw1 fh1 fA1 fn1 fc1 pw ph pA pxs.length pc cw0 ch0 cA0 cn0 cc0 cw1 ch1 cA1 cn1 cc1 cW cH cA cxs.length cc aw0 ah0 aA0 an0 ac0 aw1 ah1 aA1 an1 ac1 pw ph aA pxs.length ac gw0 gh0 gA0 gn0 gc0 gw1 gh1 gA1 gn1 gc1 cW cH gA cxs.length gc pw ph pA pxs.length pc M) Q := by
  have hs := checkS_len' hk
  have har := area (w := pw) (h := ph) (by omega)
  intro d
  induction d with
  | zero =>
    intro k hd h1 h2
    obtain rfl : k = 12 := by omega
    refine Run.cut (Evp.of_eq (fun k => zoetropelaw05_PlaneBack.p1045660 k ..) ?_)
    refine Evp.ff rfl ?_
    rw [show IntKind.i64.wrap (2 + 1) = 3 from by decide]
    exact Evp.ret hnext
  | succ d ih =>
    intro k hd h1 h2
    refine Run.cut (Evp.of_eq (fun k => zoetropelaw05_PlaneBack.p1045660 k ..) ?_)
    refine Evp.dec (fun _ => ?_) fun h => absurd h (by omega)
    refine Evp.ob (bring_ok _ _ _ _ (by decide)) ?_
    rintro _ rfl
    simp only [ret_int, ret_bool, ret_flt, ret_slc, ret_str, ret_ptr, ret_agg, ret_tup, ob_some, bb_true, bb_false, List.getElem?_cons_zero, List.getElem?_cons_succ, List.length_cons, List.length_nil, Nat.reduceAdd, Nat.reduceLT]
    refine Evp.ob (bring_ok _ _ _ _ (by decide)) ?_
    rintro _ rfl
    simp only [ret_int, ret_bool, ret_flt, ret_slc, ret_str, ret_ptr, ret_agg, ret_tup, ob_some, bb_true, bb_false, List.getElem?_cons_zero, List.getElem?_cons_succ, List.length_cons, List.length_nil, Nat.reduceAdd, Nat.reduceLT]
    have b1 := bringS_lt (i := x) (n := 300) (by decide)
    have b2 := bringS_lt (i := y) (n := 300) (by decide)
    rw [w64 (x := bringS x 300 + k) (by omega), w64 (x := bringS y 300 - k) (by omega)]
    generalize bringS x 300 + k = u
    generalize bringS y 300 - k = v
    have g1 := clipS_le (v := v) (a := 0) (b := ph - 1) (by omega)
    have g2 := clipS_le (v := u) (a := 0) (b := pw - 1) (by omega)
    have g3 : clipS v 0 (ph - 1) * pw ≤ (ph - 1) * pw := Int.mul_le_mul_of_nonneg_right g1.2 (by omega)
    have g4 : (ph - 1) * pw = pw * ph - pw := by rw [Int.sub_mul, Int.mul_comm ph pw]; omega
    have g0 : 0 ≤ clipS v 0 (ph - 1) * pw := Int.mul_nonneg g1.1 (by omega)
    rw [w64 (x := ph - 1) (by omega), w64 (x := pw - 1) (by omega), minmax_clip (by omega), minmax_clip (by omega), w64 (x := clipS v 0 (ph - 1) * pw) (by omega), w64 (x := clipS v 0 (ph - 1) * pw + clipS u 0 (pw - 1)) (by omega)]
    refine Evp.pos (by omega) (Evp.ldI hp (by omega) fun _ _ => ?_)
    refine Evp.ob (pat_ok _ _ _ _ _ _ _ _ _ hp) ?_
    rintro _ rfl
    simp only [ret_int, ret_bool, ret_flt, ret_slc, ret_str, ret_ptr, ret_agg, ret_tup, ob_some, bb_true, bb_false, List.getElem?_cons_zero, List.getElem?_cons_succ, List.length_cons, List.length_nil, Nat.reduceAdd, Nat.reduceLT]
    have ea : atS pw ph pxs u v = pxs.getD (clipS v 0 (ph - 1) * pw + clipS u 0 (pw - 1)).toNat 0 := by unfold atS pixS; rw [if_pos hk]
    have ec : atS cW cH cxs u v = pxs.getD (clipS v 0 (ph - 1) * pw + clipS u 0 (pw - 1)).toNat 0 := by unfold atS; rw [if_pos hkc, hpc]; rfl
    refine Evp.ff (by rw [ea]; simp) ?_
    refine Evp.pos (by decide) (Evp.some rfl (Evp.some rfl (Evp.some rfl ?_)))
    refine Evp.ob (pat_ok _ _ _ _ _ _ _ _ _ hc) ?_
    rintro _ rfl
    simp only [ret_int, ret_bool, ret_flt, ret_slc, ret_str, ret_ptr, ret_agg, ret_tup, ob_some, bb_true, bb_false, List.getElem?_cons_zero, List.getElem?_cons_succ, List.length_cons, List.length_nil, Nat.reduceAdd, Nat.reduceLT]
    refine Evp.ff (by rw [ec]; simp) ?_
    rw [w64 (x := k + 1) (by omega)]
    exact Evp.ret (ih (k + 1) (by omega) (by omega) (by omega))
theorem back_2 (hk : checkS pw ph pxs.length = 0) (hkc : checkS cW cH cxs.length = 0) (hp : RdI M .u8 pA pxs) (hc : RdI M .u8 cA cxs) (ha : RdI M .u8 aA pxs) (hg : RdI M .u8 gA cxs) (hpc : ∀ v u, pixS cW cH cxs v u = pixS pw ph pxs v u)
    (hnext : Run P T lo F.zoetropelaw05_PlaneBack (zoetropelaw05_PlaneBack.c4084 x y 3 fw0 fh0 fA0 fn0 fc0 fw1 fh1 fA1 fn1 fc1 pw ph pA pxs.length pc cw0 ch0 cA0 cn0 cc0 cw1 ch1 cA1 cn1 cc1 cW cH cA cxs.length cc aw0 ah0 aA0 an0 ac0 aw1 ah1 aA1 an1 ac1 pw ph aA pxs.length ac gw0 gh0 gA0 gn0 gc0 gw1 gh1 gA1 gn1 gc1 cW cH gA cxs.length gc M) Q) :
    Run P T lo F.zoetropelaw05_PlaneBack (zoetropelaw05_PlaneBack.c4084 x y 2 fw0 fh0 fA0 fn0 fc0 fw1 fh1 fA1 fn1 fc1 pw ph pA pxs.length pc cw0 ch0 cA0 cn0 cc0 cw1 ch1 cA1 cn1 cc1 cW cH cA cxs.length cc aw0 ah0 aA0 an0 ac0 aw1 ah1 aA1 an1 ac1 pw ph aA pxs.length ac gw0 gh0 gA0 gn0 gc0 gw1 gh1 gA1 gn1 gc1 cW cH gA cxs.length gc M) Q := by
  have l1 := (checkS_len' hk).2.2.2.2
  have l2 := (checkS_len' hkc).2.2.2.2
  have r1 := area (w := pw) (h := ph) (by have := checkS_len' hk; omega)
  have r2 := area (w := cW) (h := cH) (by have := checkS_len' hkc; omega)
  refine Run.cut (Evp.of_eq (fun k => zoetropelaw05_PlaneBack.p4084 k ..) ?_)
  refine Evp.tt rfl (Evp.pos (by decide) (Evp.some rfl (Evp.some rfl (Evp.some rfl ?_))))
  refine Evp.ob (solid_ok _ _ _ _ _ _ _ hk) ?_
  rintro _ rfl
  simp only [ret_int, ret_bool, ret_flt, ret_slc, ret_str, ret_ptr, ret_agg, ret_tup, ob_some, bb_true, bb_false, List.getElem?_cons_zero, List.getElem?_cons_succ, List.length_cons, List.length_nil, Nat.reduceAdd, Nat.reduceLT]
  refine Evp.ff rfl (Evp.pos (by decide) (Evp.some rfl (Evp.some rfl (Evp.some rfl ?_))))
  refine Evp.ob (same_ok _ _ _ _ _ _ _ _ _ _ _ _ ha hp (by omega)) ?_
  rintro _ rfl
  simp only [ret_int, ret_bool, ret_flt, ret_slc, ret_str, ret_ptr, ret_agg, ret_tup, ob_some, bb_true, bb_false, List.getElem?_cons_zero, List.getElem?_cons_succ, List.length_cons, List.length_nil, Nat.reduceAdd, Nat.reduceLT]
  refine Evp.ff (by simp) (Evp.pos (by decide) (Evp.some rfl (Evp.some rfl (Evp.some rfl ?_))))
  refine Evp.pos (by decide) (Evp.some rfl (Evp.some rfl (Evp.some rfl ?_)))
  refine Evp.ob (same_ok _ _ _ _ _ _ _ _ _ _ _ _ hg hc (by omega)) ?_
  rintro _ rfl
  simp only [ret_int, ret_bool, ret_flt, ret_slc, ret_str, ret_ptr, ret_agg, ret_tup, ob_some, bb_true, bb_false, List.getElem?_cons_zero, List.getElem?_cons_succ, List.length_cons, List.length_nil, Nat.reduceAdd, Nat.reduceLT]
  refine Evp.ff (by simp) ?_
  refine Evp.ret (back_in2 hk hkc hp hc hpc hnext _ (-3) rfl (by omega) (by omega))
end
theorem PlaneBack_law (M : Mem) (vs : List Value) (hro : AllRo M) (hv : LaysArgs P M [43, 3, 3] vs) : Ac P T M.length F.zoetropelaw05_PlaneBack vs M fun r => r.1 = .bool true := by
  obtain ⟨w0, h0, A0, c0, xs, w1, h1, A1, c1, ys, w2, h2, A2, c2, zs, x, y, rfl, _, _, hc0, hn0, hx, wx, _, _, hc1, hn1, hy, wy, _, _, hc2, hn2, hz, wz, _⟩ := Arg.PlaneBack hv
  refine Ac.of (Evp.of_eq (fun k => zoetropelaw05_PlaneBack.entry k ..) ?_)
  refine Evp.ob (works_ok _ _ (Nat.le_refl _)) ?_
  rintro _ ⟨M1, rfl, p1⟩
  simp only [ret_int, ret_bool, ret_flt, ret_slc, ret_str, ret_ptr, ret_agg, ret_tup, ob_some, bb_true, bb_false, List.getElem?_cons_zero, List.getElem?_cons_succ, List.length_cons, List.length_nil, Nat.reduceAdd, Nat.reduceLT]
  refine Evp.ff rfl ?_
  refine Evp.ob (whole_ok ..) ?_
  rintro _ rfl
  simp only [ret_int, ret_bool, ret_flt, ret_slc, ret_str, ret_ptr, ret_agg, ret_tup, ob_some, bb_true, bb_false, List.getElem?_cons_zero, List.getElem?_cons_succ, List.length_cons, List.length_nil, Nat.reduceAdd, Nat.reduceLT]
  by_cases hw : WholeP w0 h0 xs.length w1 h1 ys.length w2 h2 zs.length
  · rw [wholeS_pos _ _ _ _ _ _ _ _ _ hw]
    refine Evp.ff rfl ?_
    have hw' := hw
    obtain ⟨k0, _, _, k1, _, _, k2, _, _⟩ := hw'
    obtain ⟨w, h, rfl, rfl, rfl, rfl, rfl, rfl, hs, n0, n1, n2⟩ := whole_nat _ _ _ _ _ _ _ _ _ hw
    have hs' := hs
    unfold sideP at hs'
    obtain ⟨W, hW⟩ : ∃ W, W = (w + 7) / 8 * 8 := ⟨_, rfl⟩
    obtain ⟨H, hH⟩ : ∃ H, H = (h + 7) / 8 * 8 := ⟨_, rfl⟩
    refine Evp.ob (coded_nat M.length w h A0 A1 A2 c0 c1 c2 xs ys zs M1 p1.len (hx.pre p1) (hy.pre p1) (hz.pre p1) hc0 hc1 hc2 hs n0 n1 n2 W H hW hH) ?_
    rintro _ ⟨a0, a1, a2, M2, rfl, p2, b0, b1, b2, _⟩
    simp only [ret_int, ret_bool, ret_flt, ret_slc, ret_str, ret_ptr, ret_agg, ret_tup, ob_some, bb_true, bb_false, List.getElem?_cons_zero, List.getElem?_cons_succ, List.length_cons, List.length_nil, Nat.reduceAdd, Nat.reduceLT]
    generalize hcs0 : sizedS w h xs W (H * W) = cs0 at b0
    generalize hcs1 : sizedS (w / 2 : Nat) (h / 2 : Nat) ys (W / 2) ((H / 2) * (W / 2)) = cs1 at b1
    generalize hcs2 : sizedS (w / 2 : Nat) (h / 2 : Nat) zs (W / 2) ((H / 2) * (W / 2)) = cs2 at b2
    have m0 : cs0.length = H * W := by rw [← hcs0, sizedS_len]
    have m1 : cs1.length = (H / 2) * (W / 2) := by rw [← hcs1, sizedS_len]
    have m2 : cs2.length = (H / 2) * (W / 2) := by rw [← hcs2, sizedS_len]
    have hS : sideP W ∧ sideP H := by rw [hW, hH]; exact ⟨coded_side hs.1, coded_side hs.2⟩
    have hS' := hS
    unfold sideP at hS'
    have ck : ∀ u v : Nat, 1 ≤ u → u ≤ 512 → 1 ≤ v → v ≤ 512 → checkS u v ((v * u : Nat) : Int) = 0 := fun u v a b c d => by
      unfold checkS
      rw [if_pos ⟨by omega, by omega, by omega, by omega, by rw [Int.natCast_mul, Int.mul_comm]⟩]
    have kc0 : checkS W H cs0.length = 0 := by rw [m0]; exact ck _ _ (by omega) (by omega) (by omega) (by omega)
    have kc1 : checkS (W / 2 : Nat) (H / 2 : Nat) cs1.length = 0 := by rw [m1]; exact ck _ _ (by omega) (by omega) (by omega) (by omega)
    have kc2 : checkS (W / 2 : Nat) (H / 2 : Nat) cs2.length = 0 := by rw [m2]; exact ck _ _ (by omega) (by omega) (by omega) (by omega)
    have hwc : WholeP W H cs0.length (W / 2 : Nat) (H / 2 : Nat) cs1.length (W / 2 : Nat) (H / 2 : Nat) cs2.length := ⟨kc0, hS.1, hS.2, kc1, rfl, rfl, kc2, rfl, rfl⟩
    have ecrop : cropS W H (W / 2 : Nat) (H / 2 : Nat) (W / 2 : Nat) (H / 2 : Nat) cs0 cs1 cs2 w h = ⟨w, h, (w / 2 : Nat), (h / 2 : Nat), (w / 2 : Nat), (h / 2 : Nat), xs, ys, zs, 0⟩ := by
      unfold cropS
      rw [if_pos ⟨hwc, hs, by omega, by omega⟩]
      unfold resF
      simp only [Int.toNat_natCast]
      rw [← hcs0, ← hcs1, ← hcs2, sized_back n0 (by omega) (by omega) (by omega) (by omega), sized_back n1 (by omega) (by omega) (by omega) (by omega), sized_back n2 (by omega) (by omega) (by omega) (by omega)]
    have ecoded : codedS W H (W / 2 : Nat) (H / 2 : Nat) (W / 2 : Nat) (H / 2 : Nat) cs0 cs1 cs2 = ⟨W, H, (W / 2 : Nat), (H / 2 : Nat), (W / 2 : Nat), (H / 2 : Nat), cs0, cs1, cs2, 0⟩ := by
      unfold codedS
      rw [if_pos hwc]
      unfold resF
      simp only [Int.toNat_natCast]
      rw [show (W + 7) / 8 * 8 = W by omega, show (H + 7) / 8 * 8 = H by omega, sized_self (by rw [m0, Nat.mul_comm]), sized_self (by rw [m1, Nat.mul_comm]), sized_self (by rw [m2, Nat.mul_comm])]
    have q2 := p1.trans p2
    have f3 := pcrop_ok M.length W H (W / 2 : Nat) (H / 2 : Nat) (W / 2 : Nat) (H / 2 : Nat) (some a0) (some a1) (some a2) (H * W) ((H / 2) * (W / 2)) ((H / 2) * (W / 2)) cs0 cs1 cs2 M2 w h q2.len b0.rdI b1.rdI b2.rdI (by omega) (by rw [m1]; exact Nat.le_refl _) (by rw [m2]; exact Nat.le_refl _)
    rw [ecrop, m0, m1, m2] at f3
    refine Evp.ob f3 ?_
    rintro _ ⟨D0, D1, D2, d0, d1, d2, M3, rfl, p3, oD⟩
    simp only [F3v, ret_int, ret_bool, ret_flt, ret_slc, ret_str, ret_ptr, ret_agg, ret_tup, ob_some, bb_true, bb_false, List.getElem?_cons_zero, List.getElem?_cons_succ, List.length_cons, List.length_nil, Nat.reduceAdd, Nat.reduceLT]
    have q3 := q2.trans p3
    have f4 := pcoded_ok M.length W H (W / 2 : Nat) (H / 2 : Nat) (W / 2 : Nat) (H / 2 : Nat) (some a0) (some a1) (some a2) (H * W) ((H / 2) * (W / 2)) ((H / 2) * (W / 2)) cs0 cs1 cs2 M3 q3.len (b0.rdI.pre p3) (b1.rdI.pre p3) (b2.rdI.pre p3) (by omega) (by rw [m1]; exact Nat.le_refl _) (by rw [m2]; exact Nat.le_refl _)
    rw [ecoded, m0, m1, m2] at f4
    refine Evp.ob f4 ?_
    rintro _ ⟨G0, G1, G2, g0, g1, g2, M4, rfl, p4, oG⟩
    simp only [F3v, ret_int, ret_bool, ret_flt, ret_slc, ret_str, ret_ptr, ret_agg, ret_tup, ob_some, bb_true, bb_false, List.getElem?_cons_zero, List.getElem?_cons_succ, List.length_cons, List.length_nil, Nat.reduceAdd, Nat.reduceLT]
    have q4 := q3.trans p4
    refine Evp.ff rfl (Evp.ff rfl (Evp.ff rfl ?_))
    refine Evp.ob (whole_ok ..) ?_
    rintro _ rfl
    simp only [ret_int, ret_bool, ret_flt, ret_slc, ret_str, ret_ptr, ret_agg, ret_tup, ob_some, bb_true, bb_false, List.getElem?_cons_zero, List.getElem?_cons_succ, List.length_cons, List.length_nil, Nat.reduceAdd, Nat.reduceLT]
    have hw4 := wholeS_pos _ _ _ _ _ _ _ _ _ hwc
    rw [m0, m1, m2] at hw4
    refine Evp.ff (by rw [hw4]; rfl) ?_
    have t1 : Int.tmod ((W : Nat) : Int) 8 = ((W % 8 : Nat) : Int) := rfl
    have t2 : Int.tmod ((H : Nat) : Int) 8 = ((H % 8 : Nat) : Int) := rfl
    rw [t1, t2, w64 (x := (W : Int) - w) (by omega), w64 (x := (H : Int) - h) (by omega)]
    refine Evp.neb (fun h => absurd (by omega) h) fun _ => ?_
    refine Evp.neb (fun h => absurd (by omega) h) fun _ => ?_
    refine Evp.dec (fun h => absurd h (by omega)) fun _ => ?_
    refine Evp.dec (fun h => absurd h (by omega)) fun _ => ?_
    have r34 := p3.trans p4
    have pp0 : ∀ v u, pixS W H cs0 v u = pixS w h xs v u := fun v u => by rw [← hcs0]; exact back_pix (by omega) (by omega) (by omega) (by omega) v u
    have pp1 : ∀ v u, pixS (W / 2 : Nat) (H / 2 : Nat) cs1 v u = pixS (w / 2 : Nat) (h / 2 : Nat) ys v u := fun v u => by rw [← hcs1]; exact back_pix (by omega) (by omega) (by omega) (by omega) v u
    have pp2 : ∀ v u, pixS (W / 2 : Nat) (H / 2 : Nat) cs2 v u = pixS (w / 2 : Nat) (h / 2 : Nat) zs v u := fun v u => by rw [← hcs2]; exact back_pix (by omega) (by omega) (by omega) (by omega) v u
    rw [← m0, ← m1]
    have m12 : cs1.length = cs2.length := by rw [m1, m2]
    refine Evp.ret (back_0 (pxs := xs) (cxs := cs0) (hk := k0) (hkc := kc0) (hp := hx.pre q4) (hc := b0.rdI.pre r34) (ha := oD.1.rd.pre p4) (hg := oG.1.rd) (hpc := pp0) (hnext := ?_))
    refine back_1 (pxs := ys) (cxs := cs1) (hk := k1) (hkc := kc1) (hp := hy.pre q4) (hc := b1.rdI.pre r34) (ha := oD.2.1.rd.pre p4) (hg := oG.2.1.rd) (hpc := pp1) (hnext := ?_)
    rw [m12]
    refine back_2 (pxs := zs) (cxs := cs2) (hk := k2) (hkc := kc2) (hp := hz.pre q4) (hc := b2.rdI.pre r34) (ha := oD.2.2.1.rd.pre p4) (hg := oG.2.2.1.rd) (hpc := pp2) (hnext := ?_)
    refine Run.cut (Evp.of_eq (fun k => zoetropelaw05_PlaneBack.p4084 k ..) ?_)
    exact Evp.ff rfl (Evp.ret (Run.ret rfl))
  · rw [wholeS_neg _ _ _ _ _ _ _ _ _ hw]
    refine Evp.tt rfl ?_
    have e : codedS w0 h0 w1 h1 w2 h2 xs ys zs = noF := by unfold codedS; rw [if_neg hw]
    have f := pcoded_ok M.length w0 h0 w1 h1 w2 h2 A0 A1 A2 c0 c1 c2 xs ys zs M1 p1.len (hx.pre p1) (hy.pre p1) (hz.pre p1) hc0 hc1 hc2
    rw [e] at f
    refine Evp.ob f ?_
    rintro _ ⟨B0, B1, B2, d0, d1, d2, M2, rfl, _, _⟩
    simp only [F3v, ret_int, ret_bool, ret_flt, ret_slc, ret_str, ret_ptr, ret_agg, ret_tup, ob_some, bb_true, bb_false, List.getElem?_cons_zero, List.getElem?_cons_succ, List.length_cons, List.length_nil, Nat.reduceAdd, Nat.reduceLT]
    exact Evp.ret (Run.ret rfl)
end Go.Zt
