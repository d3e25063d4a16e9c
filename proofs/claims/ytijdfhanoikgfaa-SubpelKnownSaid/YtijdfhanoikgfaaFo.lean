/- Left and right, above and below are treated alike. -/
import Derived.Test.YtijdfhanoikgfaaFn
set_option linter.unusedVariables false
set_option linter.unusedSimpArgs false
set_option maxRecDepth 100000
namespace Go.Zt
theorem taps_rev {k : Int} (hk : 0 ≤ k ∧ k ≤ 2) {a : Int} (ha : 1 ≤ a ∧ a ≤ 15) : tapsS k (16 - a) = (tapsS k a).reverse := by
  obtain ⟨n, rfl⟩ := Int.eq_ofNat_of_zero_le (a := a) (by omega)
  have h0 : ∀ n : Nat, n < 16 → 1 ≤ n → tapsS 0 (16 - (n : Int)) = (tapsS 0 n).reverse := by decide
  have h1 : ∀ n : Nat, n < 16 → 1 ≤ n → tapsS 1 (16 - (n : Int)) = (tapsS 1 n).reverse := by decide
  have h2 : ∀ n : Nat, n < 16 → 1 ≤ n → tapsS 2 (16 - (n : Int)) = (tapsS 2 n).reverse := by decide
  have : k = 0 ∨ k = 1 ∨ k = 2 := by omega
  rcases this with rfl | rfl | rfl
  · exact h0 n (by omega) (by omega)
  · exact h1 n (by omega) (by omega)
  · exact h2 n (by omega) (by omega)
theorem sum_rev {t : List Int} (ht : t.length = 8) (p q : Nat → Int) (h : ∀ k, k ≤ 7 → p (7 - k) = q k) : sumT t.reverse p 8 = sumT t q 8 := by
  have h0 := h 0 (by omega)
  have h1 := h 1 (by omega)
  have h2 := h 2 (by omega)
  have h3 := h 3 (by omega)
  have h4 := h 4 (by omega)
  have h5 := h 5 (by omega)
  have h6 := h 6 (by omega)
  have h7 := h 7 (by omega)
  have r : ∀ j, j < 8 → t.reverse.getD j 0 = t.getD (7 - j) 0 := fun j hj => by rw [getD_rev (by omega), ht]
  simp only [sumT, r 0 (by omega), r 1 (by omega), r 2 (by omega), r 3 (by omega), r 4 (by omega), r 5 (by omega), r 6 (by omega), r 7 (by omega), ← h0, ← h1, ← h2, ← h3, ← h4, ← h5, ← h6, ← h7, Nat.reduceSub]
  omega
theorem sum_turn {k : Int} (hk : 0 ≤ k ∧ k ≤ 2) (z : Int) (p q : Nat → Int) (h0 : z % 16 = 0 → p 3 = q 3) (h1 : z % 16 ≠ 0 → ∀ k, k ≤ 7 → p (7 - k) = q k) : sumT (tapsS k (-z % 16)) p 8 = sumT (tapsS k (z % 16)) q 8 := by
  by_cases e : z % 16 = 0
  · rw [e, show -z % 16 = 0 by omega, taps_zero hk, sum_one, sum_one, h0 e]
  · rw [show -z % 16 = 16 - z % 16 by omega, taps_rev hk (by omega)]
    exact sum_rev (tapsS_len _ _) p q (h1 e)
theorem pix_mir {b : Bool} {W h : Nat} {xs : List Int} (hn : xs.length = h * W) (hW : 0 < W) (hh : 0 < h) (y x : Int) :
    pixS W h (mirS b W h xs) y x = if b then pixS W h xs y (W - 1 - x) else pixS W h xs (h - 1 - y) x := by
  have hy := clipS_le (v := y) (a := 0) (b := h - 1) (by omega)
  have hx := clipS_le (v := x) (a := 0) (b := W - 1) (by omega)
  obtain ⟨cy, hcy⟩ := Int.eq_ofNat_of_zero_le hy.1
  obtain ⟨cx, hcx⟩ := Int.eq_ofNat_of_zero_le hx.1
  have ey : clipS ((h : Int) - 1 - y) 0 (h - 1) = ((h - 1 - cy : Nat) : Int) := by
    unfold clipS at hcy ⊢
    split <;> split at hcy <;> first | omega | (split at hcy <;> first | omega | (split <;> omega)) | (split <;> omega)
  have ex : clipS ((W : Int) - 1 - x) 0 (W - 1) = ((W - 1 - cx : Nat) : Int) := by
    unfold clipS at hcx ⊢
    split <;> split at hcx <;> first | omega | (split at hcx <;> first | omega | (split <;> omega)) | (split <;> omega)
  obtain ⟨d1, d2⟩ := dm (W := W) (r := cy) (s := cx) (by omega)
  have e0 : ((cy : Int) * (W : Int) + (cx : Int)).toNat = cy * W + cx := by rw [← Int.natCast_mul, ← Int.natCast_add, Int.toNat_natCast]
  have hin : cy * W + cx < xs.length := by rw [hn]; exact dm_in (by omega) (by omega)
  unfold pixS
  rw [hcy, hcx, e0, mirS_get hin]
  cases b with
  | true =>
    rw [if_pos rfl, ex, ← Int.natCast_mul, ← Int.natCast_add, Int.toNat_natCast]
    unfold mirT
    rw [d1, d2, if_pos rfl]
  | false =>
    rw [if_neg (by decide), ey, ← Int.natCast_mul, ← Int.natCast_add, Int.toNat_natCast]
    unfold mirT
    rw [d1, d2, if_neg (by decide)]
section
variable {W h : Nat} {xs : List Int} (hn : xs.length = h * W) (hW : 0 < W) (hh : 0 < h) {k : Int} (hk : 0 ≤ k ∧ k ≤ 2) (x y : Int) (bw bh : Nat)
include hn hW hh hk in
theorem row_across (j i : Nat) (hi : i < bw) : rowS W h (mirS true W h xs) (tapsS k (-x % 16)) (16 * ((W : Int) - bw) - x) y j (bw - 1 - i) = rowS W h xs (tapsS k (x % 16)) x y j i := by
  unfold rowS
  rw [sum_turn hk x _ (fun k => pixS W h xs (y / 16 + j - 3) (x / 16 + i + k - 3)) (fun e => ?_) fun e t ht => ?_]
  · show pixS W h (mirS true W h xs) _ _ = _
    rw [pix_mir hn hW hh, if_pos rfl]
    congr 1
    omega
  · show pixS W h (mirS true W h xs) _ _ = _
    rw [pix_mir hn hW hh, if_pos rfl]
    congr 1
    omega
include hn hW hh hk in
theorem samp_across (j i : Nat) (hi : i < bw) : sampS W h (mirS true W h xs) (tapsS k (-x % 16)) (tapsS k (y % 16)) (16 * ((W : Int) - bw) - x) y j (bw - 1 - i) = sampS W h xs (tapsS k (x % 16)) (tapsS k (y % 16)) x y j i := by
  unfold sampS
  rw [sumT_congr (q := fun k' => rowS W h xs (tapsS k (x % 16)) x y (j + k') i) fun t _ => row_across hn hW hh hk x y bw (j + t) i hi]
include hn hW hh in
theorem row_down (ta : List Int) (z : Int) (j j' i : Nat) (hj : z / 16 + (j : Int) - 3 = (h : Int) - 1 - (y / 16 + j' - 3)) : rowS W h (mirS false W h xs) ta x z j i = rowS W h xs ta x y j' i := by
  unfold rowS
  rw [sumT_congr (q := fun t => pixS W h xs (y / 16 + j' - 3) (x / 16 + i + t - 3)) fun t _ => ?_]
  rw [pix_mir hn hW hh, if_neg (by decide)]
  congr 1
  omega
include hn hW hh hk in
theorem samp_down (ta : List Int) (j i : Nat) (hj : j < bh) : sampS W h (mirS false W h xs) ta (tapsS k (-y % 16)) x (16 * ((h : Int) - bh) - y) (bh - 1 - j) i = sampS W h xs ta (tapsS k (y % 16)) x y j i := by
  unfold sampS
  rw [sum_turn hk y _ (fun t => rowS W h xs ta x y (j + t) i) (fun e => ?_) fun e t ht => ?_]
  · exact row_down hn hW hh x y ta _ _ _ _ (by omega)
  · exact row_down hn hW hh x y ta _ _ _ _ (by omega)
end
section
variable (lo : Nat) (x y k : Int) (bw bh : Nat) (A1 A2 A3 : Option Addr) (c1 c2 c3 : Nat) (zs xa xd : List Int) (M : Mem)
theorem turned_loop (h1 : RdI M .u8 A1 zs) (h2 : RdI M .u8 A2 xa) (h3 : RdI M .u8 A3 xd) (hl : zs.length = bh * bw) (hla : xa.length = zs.length) (hld : xd.length = zs.length) (hw : 4 ≤ bw ∧ bw ≤ 16) (hh : 4 ≤ bh ∧ bh ≤ 16)
    (ha : ∀ q, q < zs.length → xa.getD (q / bw * bw + (bw - 1 - q % bw)) 0 = zs.getD q 0) (hd_ : ∀ q, q < zs.length → xd.getD ((bh - 1 - q / bw) * bw + q % bw) 0 = zs.getD q 0) :
    ∀ (d i : Nat), zs.length - i = d → i ≤ zs.length → Run P T lo F.zoetropelaw14_SubpelTurned (zoetropelaw14_SubpelTurned.c8180 A1 zs.length c1 A2 xa.length c2 A3 xd.length c3 i x y bw bh k M) fun r => r.1 = .bool true := by
  have hsz : zs.length ≤ 16 * 16 := by rw [hl]; exact Nat.mul_le_mul (by omega) (by omega)
  intro d
  induction d with
  | zero =>
    intro i hd hi
    refine Run.cut (Evp.of_eq (fun k => zoetropelaw14_SubpelTurned.p8180 k ..) ?_)
    exact Evp.dec (fun h => absurd h (by omega)) fun _ => Evp.ret (Run.ret rfl)
  | succ d ih =>
    intro i hd hi
    have hil : i < bh * bw := by omega
    obtain ⟨q0, q1, q2, q3⟩ := dm_lt hil
    have e1 : Int.tdiv (i : Int) ((bw : Nat) : Int) = ((i / bw : Nat) : Int) := rfl
    have e2 : Int.tmod (i : Int) ((bw : Nat) : Int) = ((i % bw : Nat) : Int) := rfl
    have z1 : (i / bw) * bw ≤ i := by omega
    have z2 : 0 ≤ (i / bw) * bw := Nat.zero_le _
    have c1 : ((i / bw : Nat) : Int) * (bw : Int) = ((i / bw * bw : Nat) : Int) := by simp
    have c2 : ((bh - 1 - i / bw : Nat) : Int) * (bw : Int) = (((bh - 1 - i / bw) * bw : Nat) : Int) := by rw [Int.natCast_mul]
    have sl : ∀ t, t < bh → bh - 1 - t < bh := fun t ht => by omega
    have in1 := dm_in (W := bw) (h := bh) (r := i / bw) (s := bw - 1 - i % bw) q1 (by omega)
    have in2 := dm_in (W := bw) (h := bh) (r := bh - 1 - i / bw) (s := i % bw) (sl _ q1) q2
    have ga := ha i (by omega)
    have gd := hd_ i (by omega)
    rw [← hl] at in1 in2
    generalize hqq : i / bw = qq at *
    generalize hqr : i % bw = qr at *
    have c3' : ((bh - 1 - qq : Nat) : Int) = (bh : Int) - 1 - qq := by omega
    generalize hqw : qq * bw = qw at *
    generalize hqz : (bh - 1 - qq) * bw = qz at *
    refine Run.cut (Evp.of_eq (fun k => zoetropelaw14_SubpelTurned.p8180 k ..) ?_)
    refine Evp.dec (fun _ => ?_) fun h => absurd h (by omega)
    refine Evp.neg (by omega) (Evp.neg (by omega) ?_)
    rw [e1, e2, w64 (x := (qq : Int)) (by omega), w64 (x := (bh : Int) - 1) (by omega), w64 (x := (bh : Int) - 1 - qq) (by omega), ← c3', c2, c1, w64 (x := (qw : Int)) (by omega), w64 (x := (qw : Int) + bw) (by omega), w64 (x := (qw : Int) + bw - 1) (by omega), w64 (x := (qw : Int) + bw - 1 - qr) (by omega), w64 (x := (qz : Int)) (by omega), w64 (x := (qz : Int) + qr) (by omega)]
    simp only [Int.toNat_natCast]
    rw [show ((qw : Int) + bw - 1 - qr).toNat = qw + (bw - 1 - qr) by omega, show ((qz : Int) + qr).toNat = qz + qr by omega]
    refine Evp.pos (by omega) (Evp.ldI h2 (by omega) fun _ _ => ?_)
    refine Evp.pos (by omega) (Evp.ldI h1 (by omega) fun _ _ => ?_)
    refine Evp.ff (by rw [ga]; simp) ?_
    refine Evp.pos (by omega) (Evp.ldI h3 (by omega) fun _ _ => ?_)
    refine Evp.pos (by omega) (Evp.ldI h1 (by omega) fun _ _ => ?_)
    refine Evp.ff (by rw [gd]; simp) ?_
    rw [w64 (by omega)]
    exact Evp.ret (ih (i + 1) (by omega) (by omega))
end
theorem SubpelTurned_law (M : Mem) (vs : List Value) (hro : AllRo M) (hv : LaysArgs P M [30, 32] vs) : Ac P T M.length F.zoetropelaw14_SubpelTurned vs M fun r => r.1 = .bool true := by
  obtain ⟨w, h, A, c, xs, lx, ly, lw, lh, lk, rfl, _, _, hc, hn, hx, wx, _⟩ := Arg.SubpelTurned hv
  have bx : Bytes xs := fun x hx => wf_u8 (wx x hx)
  refine Ac.of (Evp.of_eq (fun k => zoetropelaw14_SubpelTurned.entry k ..) ?_)
  refine Evp.ob (works_ok _ _ (Nat.le_refl _)) ?_
  rintro _ ⟨M1, rfl, p1⟩
  simp only [ret_int, ret_bool, ret_flt, ret_slc, ret_str, ret_ptr, ret_agg, ret_tup, ob_some, bb_true, bb_false, List.getElem?_cons_zero, List.getElem?_cons_succ, List.length_cons, List.length_nil, Nat.reduceAdd, Nat.reduceLT]
  refine Evp.ff rfl ?_
  refine Evp.ob (check_ok ..) ?_
  rintro _ rfl
  simp only [ret_int, ret_bool, ret_flt, ret_slc, ret_str, ret_ptr, ret_agg, ret_tup, ob_some, bb_true, bb_false, List.getElem?_cons_zero, List.getElem?_cons_succ, List.length_cons, List.length_nil, Nat.reduceAdd, Nat.reduceLT]
  refine Evp.neb (fun hk => ?_) fun hk => ?_
  · refine Evp.ob (check_ok ..) ?_
    rintro _ rfl
    simp only [ret_int, ret_bool, ret_flt, ret_slc, ret_str, ret_ptr, ret_agg, ret_tup, ob_some, bb_true, bb_false, List.getElem?_cons_zero, List.getElem?_cons_succ, List.length_cons, List.length_nil, Nat.reduceAdd, Nat.reduceLT]
    exact Evp.ret (Run.ret (by simp [hk]))
  have hs := checkS_len' hk
  refine Evp.dec (fun h => absurd h (by omega)) fun _ => ?_
  have har := area (w := w) (h := h) (by omega)
  rw [w64 (x := w * h) (by omega)]
  refine Evp.neb (fun h => absurd hs.2.2.2.2 h) fun _ => ?_
  refine Evp.ob (may_ok ..) ?_
  rintro _ ⟨x, y, bw, bh, k, rfl, hx0, hy0, hw0, hh0, hk0⟩
  simp only [ret_int, ret_bool, ret_flt, ret_slc, ret_str, ret_ptr, ret_agg, ret_tup, ob_some, bb_true, bb_false, List.getElem?_cons_zero, List.getElem?_cons_succ, List.length_cons, List.length_nil, Nat.reduceAdd, Nat.reduceLT]
  obtain ⟨W, rfl⟩ := Int.eq_ofNat_of_zero_le (a := w) (by omega)
  obtain ⟨H, rfl⟩ := Int.eq_ofNat_of_zero_le (a := h) (by omega)
  obtain ⟨BW, rfl⟩ := Int.eq_ofNat_of_zero_le (a := bw) (by omega)
  obtain ⟨BH, rfl⟩ := Int.eq_ofNat_of_zero_le (a := bh) (by omega)
  have hnn : xs.length = H * W := by have := hs.2.2.2.2; rw [← Int.natCast_mul] at this; rw [Nat.mul_comm]; omega
  refine Evp.ob (fetch_ok M.length W H A c xs x y BW BH k M1 (hx.pre p1) bx hc p1.len) ?_
  intro r hr
  obtain ⟨B, cc, M2, rfl, p2, g2, k2⟩ := hr.got (fetchOk_of hk (by omega) (by omega) (by omega) (by omega) hk0)
  simp only [ret_int, ret_bool, ret_flt, ret_slc, ret_str, ret_ptr, ret_agg, ret_tup, ob_some, bb_true, bb_false, List.getElem?_cons_zero, List.getElem?_cons_succ, List.length_cons, List.length_nil, Nat.reduceAdd, Nat.reduceLT]
  have p12 := p1.trans p2
  refine Evp.ob (mir_ok _ true W H xs A c M2 (Nat.le_refl _) (hx.pre p12) hnn (by omega) (by omega)) ?_
  rintro _ ⟨A2, M3, rfl, p3, k3⟩
  simp only [ret_int, ret_bool, ret_flt, ret_slc, ret_str, ret_ptr, ret_agg, ret_tup, ob_some, bb_true, bb_false, List.getElem?_cons_zero, List.getElem?_cons_succ, List.length_cons, List.length_nil, Nat.reduceAdd, Nat.reduceLT]
  rw [w64 (x := (W : Int) - BW) (by omega), w64 (x := 16 * ((W : Int) - BW)) (by omega), w64 (x := 16 * ((W : Int) - BW) - x) (by omega), w64 (x := (H : Int) - BH) (by omega), w64 (x := 16 * ((H : Int) - BH)) (by omega), w64 (x := 16 * ((H : Int) - BH) - y) (by omega)]
  have hka : checkS W H (mirS true W H xs).length = 0 := by rw [mirS_len]; exact hk
  have hkd : checkS W H (mirS false W H xs).length = 0 := by rw [mirS_len]; exact hk
  refine Evp.ob (fetch_ok M2.length W H A2 xs.length (mirS true W H xs) _ y BW BH k M3 k3 (mirS_bytes bx) (by rw [mirS_len]; exact Nat.le_refl _) p3.len) ?_
  intro r hr
  obtain ⟨B4, cc4, M4, rfl, p4, g4, k4⟩ := hr.got (fetchOk_of hka (by omega) (by omega) (by omega) (by omega) hk0)
  simp only [ret_int, ret_bool, ret_flt, ret_slc, ret_str, ret_ptr, ret_agg, ret_tup, ob_some, bb_true, bb_false, List.getElem?_cons_zero, List.getElem?_cons_succ, List.length_cons, List.length_nil, Nat.reduceAdd, Nat.reduceLT]
  have p14 := (p12.trans p3).trans p4
  refine Evp.ob (mir_ok _ false W H xs A c M4 (Nat.le_refl _) (hx.pre p14) hnn (by omega) (by omega)) ?_
  rintro _ ⟨A5, M5, rfl, p5, k5⟩
  simp only [ret_int, ret_bool, ret_flt, ret_slc, ret_str, ret_ptr, ret_agg, ret_tup, ob_some, bb_true, bb_false, List.getElem?_cons_zero, List.getElem?_cons_succ, List.length_cons, List.length_nil, Nat.reduceAdd, Nat.reduceLT]
  refine Evp.ob (fetch_ok M4.length W H A5 xs.length (mirS false W H xs) x _ BW BH k M5 k5 (mirS_bytes bx) (by rw [mirS_len]; exact Nat.le_refl _) p5.len) ?_
  intro r hr
  obtain ⟨B6, cc6, M6, rfl, p6, g6, k6⟩ := hr.got (fetchOk_of hkd (by omega) (by omega) (by omega) (by omega) hk0)
  simp only [ret_int, ret_bool, ret_flt, ret_slc, ret_str, ret_ptr, ret_agg, ret_tup, ob_some, bb_true, bb_false, List.getElem?_cons_zero, List.getElem?_cons_succ, List.length_cons, List.length_nil, Nat.reduceAdd, Nat.reduceLT]
  refine Evp.ff rfl (Evp.ff rfl (Evp.ff rfl ?_))
  simp only [Int.toNat_natCast] at *
  have l2 := fetchS_len W H xs x y BW BH k
  have l4 := fetchS_len W H (mirS true W H xs) (16 * ((W : Int) - BW) - x) y BW BH k
  have l6 := fetchS_len W H (mirS false W H xs) x (16 * ((H : Int) - BH) - y) BW BH k
  have hm : BH * BW ≤ 16 * 16 := Nat.mul_le_mul (by omega) (by omega)
  have e : (BW : Int) * (BH : Int) = ((BH * BW : Nat) : Int) := by rw [Int.natCast_mul, Int.mul_comm]
  rw [e, w64 (by omega)]
  refine Evp.ff (by rw [l2]; simp) ?_
  refine Evp.ff (by rw [l2, l4]; simp) ?_
  refine Evp.ff (by rw [l2, l6]; simp) ?_
  refine Evp.ret (turned_loop M.length x y k BW BH B B4 B6 cc cc4 cc6 _ _ _ M6 (k2.rdI.pre (((p3.trans p4).trans p5).trans p6)) (k4.rdI.pre (p5.trans p6)) k6.rdI l2 (by rw [l2, l4]) (by rw [l2, l6]) (by omega) (by omega) (fun q hq => ?_) (fun q hq => ?_) _ 0 rfl (by omega))
  · rw [l2] at hq
    obtain ⟨q0, q1, q2, q3⟩ := dm_lt hq
    obtain ⟨d1, d2⟩ := dm (W := BW) (r := q / BW) (s := BW - 1 - q % BW) (by omega)
    rw [fetchS_get _ _ _ _ _ _ _ _ (dm_in q1 (by omega)), fetchS_get _ _ _ _ _ _ _ _ hq, d1, d2, show (16 * ((W : Int) - BW) - x) % 16 = -x % 16 by omega]
    exact samp_across hnn (by omega) (by omega) hk0 x y BW _ _ q2
  · rw [l2] at hq
    obtain ⟨q0, q1, q2, q3⟩ := dm_lt hq
    obtain ⟨d1, d2⟩ := dm (W := BW) (r := BH - 1 - q / BW) (s := q % BW) q2
    have sl : ∀ t, t < BH → BH - 1 - t < BH := fun t ht => by omega
    rw [fetchS_get _ _ _ _ _ _ _ _ (dm_in (sl _ q1) q2), fetchS_get _ _ _ _ _ _ _ _ hq, d1, d2, show (16 * ((H : Int) - BH) - y) % 16 = -y % 16 by omega]
    exact samp_down hnn (by omega) (by omega) hk0 x y BH _ _ _ q1
end Go.Zt
