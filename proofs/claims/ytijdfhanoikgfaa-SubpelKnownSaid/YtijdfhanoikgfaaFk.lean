/- Parts of a block; what lies between samples; what lies at samples. -/
import Derived.Test.YtijdfhanoikgfaaFj
set_option linter.unusedVariables false
set_option linter.unusedSimpArgs false
set_option maxRecDepth 100000
namespace Go.Zt
theorem checkS_len' {w h n : Int} (h0 : checkS w h n = 0) : 1 ≤ w ∧ w ≤ 512 ∧ 1 ≤ h ∧ h ≤ 512 ∧ n = w * h := by
  unfold checkS at h0
  split at h0
  · assumption
  · omega
theorem at_ok (lo : Nat) (w h : Int) (A : Option Addr) (c : Nat) (xs : List Int) (x y : Int) (M : Mem) (hx : RdI M .u8 A xs) (hk : checkS w h xs.length = 0) :
    Ac P T lo F.plane_At [.agg ⟨[.int .i64 w, .int .i64 h, .slice A xs.length c]⟩, .int .i64 x, .int .i64 y] M fun r => r = (.int .u8 (xs.getD (clipS y 0 (h - 1) * w + clipS x 0 (w - 1)).toNat 0), M) := by
  refine Ac.of (Evp.of_eq (fun k => plane_At.entry k ..) ?_)
  refine Evp.ob (check_ok ..) ?_
  rintro _ rfl
  simp only [ret_int, ret_bool, ret_flt, ret_slc, ret_str, ret_ptr, ret_agg, ret_tup, ob_some, bb_true, bb_false, List.getElem?_cons_zero, List.getElem?_cons_succ, List.length_cons, List.length_nil, Nat.reduceAdd, Nat.reduceLT]
  refine Evp.ff (by rw [hk]; rfl) ?_
  unfold checkS at hk
  split at hk
  · rename_i hs
    have har := area (w := w) (h := h) (by omega)
    have h1 := clipS_le (v := y) (a := 0) (b := h - 1) (by omega)
    have h2 := clipS_le (v := x) (a := 0) (b := w - 1) (by omega)
    have h3 : clipS y 0 (h - 1) * w ≤ (h - 1) * w := Int.mul_le_mul_of_nonneg_right h1.2 (by omega)
    have h4 : (h - 1) * w = w * h - w := by rw [Int.sub_mul, Int.mul_comm h w]; omega
    have h0 : 0 ≤ clipS y 0 (h - 1) * w := Int.mul_nonneg h1.1 (by omega)
    rw [w64 (x := h - 1) (by omega), w64 (x := w - 1) (by omega), minmax_clip (by omega), minmax_clip (by omega), w64 (x := clipS y 0 (h - 1) * w) (by omega), w64 (by omega)]
    refine Evp.pos (by omega) ?_
    refine Evp.ldI hx (by omega) fun _ _ => ?_
    exact Evp.ret (Run.ret rfl)
  · omega
theorem may_ok (lo : Nat) (a b c d e : Int) (M : Mem) : Ac P T lo F.zoetropelaw14_may [.agg ⟨[.int .i64 a, .int .i64 b, .int .i64 c, .int .i64 d, .int .i64 e]⟩] M fun r => ∃ x y w h k : Int, r = (.agg ⟨[.int .i64 x, .int .i64 y, .int .i64 w, .int .i64 h, .int .i64 k]⟩, M) ∧ (-500 ≤ x ∧ x ≤ 1499) ∧ (-500 ≤ y ∧ y ≤ 1499) ∧ (4 ≤ w ∧ w ≤ 16) ∧ (4 ≤ h ∧ h ≤ 16) ∧ 0 ≤ k ∧ k ≤ 2 := by
  refine Ac.of (Evp.of_eq (fun k => zoetropelaw14_may.entry k ..) ?_)
  refine Evp.ob (bring_ok _ _ _ _ (by decide)) ?_
  rintro _ rfl
  simp only [ret_int, ret_bool, ret_flt, ret_slc, ret_str, ret_ptr, ret_agg, ret_tup, ob_some, bb_true, bb_false, List.getElem?_cons_zero, List.getElem?_cons_succ, List.length_cons, List.length_nil, Nat.reduceAdd, Nat.reduceLT]
  refine Evp.ob (bring_ok _ _ _ _ (by decide)) ?_
  rintro _ rfl
  simp only [ret_int, ret_bool, ret_flt, ret_slc, ret_str, ret_ptr, ret_agg, ret_tup, ob_some, bb_true, bb_false, List.getElem?_cons_zero, List.getElem?_cons_succ, List.length_cons, List.length_nil, Nat.reduceAdd, Nat.reduceLT]
  refine Evp.ob (bring_ok _ _ _ _ (by decide)) ?_
  rintro _ rfl
  simp only [ret_int, ret_bool, ret_flt, ret_slc, ret_str, ret_ptr, ret_agg, ret_tup, ob_some, bb_true, bb_false, List.getElem?_cons_zero, List.getElem?_cons_succ, List.length_cons, List.length_nil, Nat.reduceAdd, Nat.reduceLT]
  refine Evp.ob (bring_ok _ _ _ _ (by decide)) ?_
  rintro _ rfl
  simp only [ret_int, ret_bool, ret_flt, ret_slc, ret_str, ret_ptr, ret_agg, ret_tup, ob_some, bb_true, bb_false, List.getElem?_cons_zero, List.getElem?_cons_succ, List.length_cons, List.length_nil, Nat.reduceAdd, Nat.reduceLT]
  refine Evp.ob (bring_ok _ _ _ _ (by decide)) ?_
  rintro _ rfl
  simp only [ret_int, ret_bool, ret_flt, ret_slc, ret_str, ret_ptr, ret_agg, ret_tup, ob_some, bb_true, bb_false, List.getElem?_cons_zero, List.getElem?_cons_succ, List.length_cons, List.length_nil, Nat.reduceAdd, Nat.reduceLT]
  have h1 := bringS_lt (i := a) (n := 2000) (by decide)
  have h2 := bringS_lt (i := b) (n := 2000) (by decide)
  have h3 := bringS_lt (i := c) (n := 13) (by decide)
  have h4 := bringS_lt (i := d) (n := 13) (by decide)
  have h5 := bringS_lt (i := e) (n := 3) (by decide)
  rw [w64 (x := bringS a 2000 - 500) (by omega), w64 (x := bringS b 2000 - 500) (by omega), w64 (x := 4 + bringS c 13) (by omega), w64 (x := 4 + bringS d 13) (by omega)]
  exact Evp.ret (Run.ret ⟨_, _, _, _, _, rfl, by omega, by omega, by omega, by omega, by omega, by omega⟩)

theorem fetchS_get (w h : Int) (xs : List Int) (x y : Int) (bw bh : Nat) (kind : Int) {q : Nat} (hq : q < bh * bw) : (fetchS w h xs x y bw bh kind).getD q 0 = sampS w h xs (tapsS kind (x % 16)) (tapsS kind (y % 16)) x y (q / bw) (q % bw) := getD_map_range hq
theorem rowS_shift (w h : Int) (xs ta : List Int) (x y : Int) (j i dj di : Nat) : rowS w h xs ta (x + 16 * di) (y + 16 * dj) j i = rowS w h xs ta x y (j + dj) (i + di) := by
  unfold rowS
  rw [sumT_congr fun k _ => ?_]
  rw [show (y + 16 * (dj : Int)) / 16 + j - 3 = y / 16 + ((j + dj : Nat) : Int) - 3 by omega, show (x + 16 * (di : Int)) / 16 + i + (k : Int) - 3 = x / 16 + ((i + di : Nat) : Int) + k - 3 by omega]
theorem sampS_shift (w h : Int) (xs ta td : List Int) (x y : Int) (j i dj di : Nat) : sampS w h xs ta td (x + 16 * di) (y + 16 * dj) j i = sampS w h xs ta td x y (j + dj) (i + di) := by
  unfold sampS
  rw [sumT_congr (q := fun k => rowS w h xs ta x y (j + dj + k) (i + di)) fun k _ => by rw [rowS_shift, show j + k + dj = j + dj + k by omega]]

/-! ### A block's part -/
section
variable (w h : Int) (xs : List Int) (x y : Int) (kind : Int) (M : Mem) (lo : Nat) (A1 A2 : Option Addr) (c1 c2 : Nat) (bw bh dx dy : Nat)
theorem parts_loop (h1 : RdI M .u8 A1 (fetchS w h xs x y bw bh kind)) (h2 : RdI M .u8 A2 (fetchS w h xs (x + 16 * dx) (y + 16 * dy) 4 4 kind)) (hw : 4 ≤ bw ∧ bw ≤ 16) (hh : 4 ≤ bh ∧ bh ≤ 16) (hx : dx + 4 ≤ bw) (hy : dy + 4 ≤ bh) (ah : Int) (ax ay ak : Int) :
    ∀ (d i : Nat), 16 - i = d → i ≤ 16 → Run P T lo F.zoetropelaw14_SubpelParts (zoetropelaw14_SubpelParts.c8180 A1 (fetchS w h xs x y bw bh kind).length c1 dx dy A2 16 c2 i ax ay bw ah ak M) fun r => r.1 = .bool true := by
  have l1 := fetchS_len w h xs x y bw bh kind
  have l2 := fetchS_len w h xs (x + 16 * dx) (y + 16 * dy) 4 4 kind
  intro d
  induction d with
  | zero =>
    intro i hd hi
    refine Run.cut (Evp.of_eq (fun k => zoetropelaw14_SubpelParts.p8180 k ..) ?_)
    exact Evp.dec (fun h => absurd h (by omega)) fun _ => Evp.ret (Run.ret rfl)
  | succ d ih =>
    intro i hd hi
    refine Run.cut (Evp.of_eq (fun k => zoetropelaw14_SubpelParts.p8180 k ..) ?_)
    refine Evp.dec (fun _ => ?_) fun h => absurd h (by omega)
    refine Evp.pos (by omega) ?_
    simp only [Int.toNat_natCast]
    refine Evp.ldI h2 (by rw [l2]; omega) fun _ _ => ?_
    have e1 : Int.tdiv (i : Int) 4 = ((i / 4 : Nat) : Int) := rfl
    have e2 : Int.tmod (i : Int) 4 = ((i % 4 : Nat) : Int) := rfl
    have hm : (dy + i / 4) * bw + bw ≤ bh * bw := by rw [← Nat.succ_mul]; exact Nat.mul_le_mul_right _ (by omega)
    have hm2 : bh * bw ≤ 16 * 16 := Nat.mul_le_mul (by omega) (by omega)
    have e3 : ((dy : Int) + ((i / 4 : Nat) : Int)) * bw = (((dy + i / 4) * bw : Nat) : Int) := by simp
    rw [e1, e2, w64 (x := ((i / 4 : Nat) : Int)) (by omega), w64 (x := (dy : Int) + ((i / 4 : Nat) : Int)) (by omega), e3, w64 (x := (((dy + i / 4) * bw : Nat) : Int)) (by omega), w64 (x := (((dy + i / 4) * bw : Nat) : Int) + dx) (by omega), w64 (x := (((dy + i / 4) * bw : Nat) : Int) + dx + ((i % 4 : Nat) : Int)) (by omega)]
    refine Evp.pos (by omega) ?_
    rw [show ((((dy + i / 4) * bw : Nat) : Int) + dx + ((i % 4 : Nat) : Int)).toNat = (dy + i / 4) * bw + (dx + i % 4) by omega]
    refine Evp.ldI h1 (by omega) fun _ _ => ?_
    rw [fetchS_get _ _ _ _ _ _ _ _ (by omega), fetchS_get _ _ _ _ _ _ _ _ (by omega)]
    rw [show ((dy + i / 4) * bw + (dx + i % 4)) / bw = dy + i / 4 by rw [Nat.mul_comm (dy + i / 4), Nat.mul_add_div (by omega), Nat.div_eq_of_lt (a := dx + i % 4) (b := bw) (by omega)]; omega, show ((dy + i / 4) * bw + (dx + i % 4)) % bw = dx + i % 4 by rw [Nat.mul_comm (dy + i / 4), Nat.mul_add_mod, Nat.mod_eq_of_lt (a := dx + i % 4) (b := bw) (by omega)]]
    rw [sampS_shift, show (x + 16 * (dx : Int)) % 16 = x % 16 by omega, show (y + 16 * (dy : Int)) % 16 = y % 16 by omega, Nat.add_comm dy, Nat.add_comm dx]
    refine Evp.ff (by simp) ?_
    rw [w64 (by omega)]
    exact Evp.ret (ih (i + 1) (by omega) (by omega))
end
theorem fetchOk_of {w h n x y bw bh k : Int} (h0 : checkS w h n = 0) (hx : -1048576 ≤ x ∧ x ≤ 1048576) (hy : -1048576 ≤ y ∧ y ≤ 1048576) (hw : 4 ≤ bw ∧ bw ≤ 64) (hh : 4 ≤ bh ∧ bh ≤ 64) (hk : 0 ≤ k ∧ k ≤ 2) : FetchOk w h n x y bw bh k :=
  ⟨h0, hx.1, hx.2, hy.1, hy.2, hw.1, hw.2, hh.1, hh.2, hk.1, hk.2⟩
theorem SubpelParts_law (M : Mem) (vs : List Value) (hro : AllRo M) (hv : LaysArgs P M [30, 32, 44] vs) : Ac P T M.length F.zoetropelaw14_SubpelParts vs M fun r => r.1 = .bool true := by
  obtain ⟨w, h, A, c, xs, lx, ly, lw, lh, lk, b0, b1, rfl, _, _, hc, hn, hx, wx, _⟩ := Arg.SubpelParts hv
  have bx : Bytes xs := fun x hx => wf_u8 (wx x hx)
  refine Ac.of (Evp.of_eq (fun k => zoetropelaw14_SubpelParts.entry k ..) ?_)
  refine Evp.ob (works_ok _ _ (Nat.le_refl _)) ?_
  rintro _ ⟨M1, rfl, p1⟩
  simp only [ret_int, ret_bool, ret_flt, ret_slc, ret_str, ret_ptr, ret_agg, ret_tup, ob_some, bb_true, bb_false, List.getElem?_cons_zero, List.getElem?_cons_succ, List.length_cons, List.length_nil, Nat.reduceAdd, Nat.reduceLT]
  refine Evp.ff rfl ?_
  refine Evp.ob (check_ok ..) ?_
  rintro _ rfl
  simp only [ret_int, ret_bool, ret_flt, ret_slc, ret_str, ret_ptr, ret_agg, ret_tup, ob_some, bb_true, bb_false, List.getElem?_cons_zero, List.getElem?_cons_succ, List.length_cons, List.length_nil, Nat.reduceAdd, Nat.reduceLT]
  refine Evp.neb (fun _ => Evp.ret (Run.ret rfl)) fun hk => ?_
  refine Evp.ob (may_ok ..) ?_
  rintro _ ⟨x, y, bw, bh, k, rfl, hx0, hy0, hw0, hh0, hk0⟩
  simp only [ret_int, ret_bool, ret_flt, ret_slc, ret_str, ret_ptr, ret_agg, ret_tup, ob_some, bb_true, bb_false, List.getElem?_cons_zero, List.getElem?_cons_succ, List.length_cons, List.length_nil, Nat.reduceAdd, Nat.reduceLT]
  refine Evp.ob (fetch_ok M.length w h A c xs x y bw bh k M1 (hx.pre p1) bx hc p1.len) ?_
  intro r hr
  obtain ⟨B, cc, M2, rfl, p2, g2, k2⟩ := hr.got (fetchOk_of hk (by omega) (by omega) (by omega) (by omega) hk0)
  simp only [ret_int, ret_bool, ret_flt, ret_slc, ret_str, ret_ptr, ret_agg, ret_tup, ob_some, bb_true, bb_false, List.getElem?_cons_zero, List.getElem?_cons_succ, List.length_cons, List.length_nil, Nat.reduceAdd, Nat.reduceLT]
  rw [w64 (x := bw - 3) (by omega), w64 (x := bh - 3) (by omega)]
  refine Evp.ob (bring_ok _ _ _ _ (by omega)) ?_
  rintro _ rfl
  simp only [ret_int, ret_bool, ret_flt, ret_slc, ret_str, ret_ptr, ret_agg, ret_tup, ob_some, bb_true, bb_false, List.getElem?_cons_zero, List.getElem?_cons_succ, List.length_cons, List.length_nil, Nat.reduceAdd, Nat.reduceLT]
  refine Evp.ob (bring_ok _ _ _ _ (by omega)) ?_
  rintro _ rfl
  simp only [ret_int, ret_bool, ret_flt, ret_slc, ret_str, ret_ptr, ret_agg, ret_tup, ob_some, bb_true, bb_false, List.getElem?_cons_zero, List.getElem?_cons_succ, List.length_cons, List.length_nil, Nat.reduceAdd, Nat.reduceLT]
  have d1 := bringS_lt (i := b0) (n := bw - 3) (by omega)
  have d2 := bringS_lt (i := b1) (n := bh - 3) (by omega)
  obtain ⟨dx, hdx⟩ : ∃ n : Nat, (n : Int) = bringS b0 (bw - 3) := ⟨_, Int.toNat_of_nonneg d1.1⟩
  obtain ⟨dy, hdy⟩ : ∃ n : Nat, (n : Int) = bringS b1 (bh - 3) := ⟨_, Int.toNat_of_nonneg d2.1⟩
  rw [← hdx, ← hdy]
  rw [w64 (x := 16 * (dx : Int)) (by omega), w64 (x := 16 * (dy : Int)) (by omega), w64 (x := x + 16 * (dx : Int)) (by omega), w64 (x := y + 16 * (dy : Int)) (by omega)]
  have l12 := (p1.trans p2).len
  refine Evp.ob (fetch_ok M.length w h A c xs _ _ 4 4 k M2 (hx.pre (p1.trans p2)) bx hc l12) ?_
  intro r hr
  obtain ⟨B', cc', M3, rfl, p3, g3, k3⟩ := hr.got (fetchOk_of hk (by omega) (by omega) (by omega) (by omega) hk0)
  simp only [ret_int, ret_bool, ret_flt, ret_slc, ret_str, ret_ptr, ret_agg, ret_tup, ob_some, bb_true, bb_false, List.getElem?_cons_zero, List.getElem?_cons_succ, List.length_cons, List.length_nil, Nat.reduceAdd, Nat.reduceLT]
  refine Evp.ff rfl (Evp.ff rfl ?_)
  have hl := fetchS_len w h xs x y bw.toNat bh.toNat k
  have hl' := fetchS_len w h xs (x + 16 * dx) (y + 16 * dy) (4 : Int).toNat (4 : Int).toNat k
  have e : bw * bh = ((bh.toNat * bw.toNat : Nat) : Int) := by rw [Int.natCast_mul, Int.toNat_of_nonneg (by omega), Int.toNat_of_nonneg (by omega), Int.mul_comm]
  have hm : bh.toNat * bw.toNat ≤ 16 * 16 := Nat.mul_le_mul (by omega) (by omega)
  rw [e, w64 (by omega)]
  refine Evp.ff (by rw [hl]; simp) ?_
  refine Evp.ff (by rw [hl']; rfl) ?_
  have fin := parts_loop w h xs x y k M3 M.length B B' cc cc' bw.toNat bh.toNat dx dy (k2.rdI.pre p3) k3.rdI (by omega) (by omega) (by omega) (by omega) bh x y k 16 0 rfl (by omega)
  rw [show ((bw.toNat : Nat) : Int) = bw by omega] at fin
  rw [hl']
  exact Evp.ret fin

/-! ### Between two samples -/
theorem taps_two {a : Int} (h0 : 0 ≤ a ∧ a ≤ 15) : tapsS 2 a = [0, 0, 0, 128 - 8 * a, 8 * a, 0, 0, 0] := by
  unfold tapsS; rw [if_neg (by omega), if_pos rfl]
theorem sum_two (a : Int) (p : Nat → Int) : sumT [0, 0, 0, 128 - 8 * a, 8 * a, 0, 0, 0] p 8 = (128 - 8 * a) * p 3 + 8 * a * p 4 := by
  simp [sumT]
theorem mid_two {a p q l m : Int} (ha : 0 ≤ a ∧ a ≤ 15) (hp : l ≤ p ∧ p ≤ m) (hq : l ≤ q ∧ q ≤ m) : 128 * l ≤ (128 - 8 * a) * p + 8 * a * q ∧ (128 - 8 * a) * p + 8 * a * q ≤ 128 * m := by
  have h1 : (128 - 8 * a) * l ≤ (128 - 8 * a) * p := Int.mul_le_mul_of_nonneg_left hp.1 (by omega)
  have h2 : 8 * a * l ≤ 8 * a * q := Int.mul_le_mul_of_nonneg_left hq.1 (by omega)
  have h3 : (128 - 8 * a) * p ≤ (128 - 8 * a) * m := Int.mul_le_mul_of_nonneg_left hp.2 (by omega)
  have h4 : 8 * a * q ≤ 8 * a * m := Int.mul_le_mul_of_nonneg_left hq.2 (by omega)
  have h5 : (128 - 8 * a) * l = 128 * l - 8 * a * l := Int.sub_mul ..
  have h6 : (128 - 8 * a) * m = 128 * m - 8 * a * m := Int.sub_mul ..
  omega
theorem pixS_in {w h : Int} {xs : List Int} (hs : 1 ≤ w ∧ w ≤ 512 ∧ 1 ≤ h ∧ h ≤ 512) (hn : (xs.length : Int) = w * h) (y x : Int) : ∃ i, i < xs.length ∧ pixS w h xs y x = xs.getD i 0 := by
  have h1 := clipS_le (v := y) (a := 0) (b := h - 1) (by omega)
  have h2 := clipS_le (v := x) (a := 0) (b := w - 1) (by omega)
  have h3 : clipS y 0 (h - 1) * w ≤ (h - 1) * w := Int.mul_le_mul_of_nonneg_right h1.2 (by omega)
  have h4 : (h - 1) * w = w * h - w := by rw [Int.sub_mul, Int.mul_comm h w]; omega
  have h0 : 0 ≤ clipS y 0 (h - 1) * w := Int.mul_nonneg h1.1 (by omega)
  exact ⟨_, by omega, rfl⟩
theorem samp_between {w h : Int} {xs : List Int} (hs : 1 ≤ w ∧ w ≤ 512 ∧ 1 ≤ h ∧ h ≤ 512) (hn : (xs.length : Int) = w * h) (l m : Int) (hl : 0 ≤ l) (hm : m ≤ 255) (hall : ∀ i, i < xs.length → l ≤ xs.getD i 0 ∧ xs.getD i 0 ≤ m) (x y : Int) (j i : Nat) :
    l ≤ sampS w h xs (tapsS 2 (x % 16)) (tapsS 2 (y % 16)) x y j i ∧ sampS w h xs (tapsS 2 (x % 16)) (tapsS 2 (y % 16)) x y j i ≤ m := by
  have hpx : ∀ y x, l ≤ pixS w h xs y x ∧ pixS w h xs y x ≤ m := fun y x => by
    obtain ⟨q, h1, h2⟩ := pixS_in hs hn y x
    rw [h2]; exact hall q h1
  have hrow : ∀ j, 16 * l ≤ rowS w h xs (tapsS 2 (x % 16)) x y j i ∧ rowS w h xs (tapsS 2 (x % 16)) x y j i ≤ 16 * m := fun j => by
    unfold rowS
    rw [taps_two (by omega), sum_two]
    have := mid_two (a := x % 16) (by omega) (hpx (y / 16 + j - 3) (x / 16 + i + (3 : Nat) - 3)) (hpx (y / 16 + j - 3) (x / 16 + i + (4 : Nat) - 3))
    omega
  unfold sampS
  rw [taps_two (a := y % 16) (by omega), sum_two]
  have := mid_two (a := y % 16) (by omega) (hrow (j + 3)) (hrow (j + 4))
  have hne := hall 0 (by have := area (w := w) (h := h) hs; omega)
  unfold clipS
  split
  · omega
  · split <;> omega
section
variable (lo : Nat) (M : Mem)
theorem between_end (l m : Int) (A : Option Addr) (c : Nat) (zs : List Int) (hz : RdI M .u8 A zs) (hn : zs.length ≤ 4096) (hall : ∀ i, i < zs.length → l ≤ zs.getD i 0 ∧ zs.getD i 0 ≤ m) :
    ∀ (d i : Nat), zs.length - i = d → i ≤ zs.length → Run P T lo F.zoetropelaw14_SubpelBetween (zoetropelaw14_SubpelBetween.c8180 l m A zs.length c i M) fun r => r.1 = .bool true := by
  intro d
  induction d with
  | zero =>
    intro i hd hi
    refine Run.cut (Evp.of_eq (fun k => zoetropelaw14_SubpelBetween.p8180 k ..) ?_)
    exact Evp.dec (fun h => absurd h (by omega)) fun _ => Evp.ret (Run.ret rfl)
  | succ d ih =>
    intro i hd hi
    refine Run.cut (Evp.of_eq (fun k => zoetropelaw14_SubpelBetween.p8180 k ..) ?_)
    refine Evp.dec (fun _ => ?_) fun h => absurd h (by omega)
    refine Evp.pos (by omega) ?_
    simp only [Int.toNat_natCast]
    have hi' := hall i (by omega)
    refine Evp.ldI hz (by omega) fun _ _ => ?_
    refine Evp.dec (fun h => absurd h (by omega)) fun _ => ?_
    refine Evp.pos (by omega) ?_
    refine Evp.ldI hz (by omega) fun _ _ => ?_
    refine Evp.dec (fun h => absurd h (by omega)) fun _ => ?_
    rw [w64 (by omega)]
    exact Evp.ret (ih (i + 1) (by omega) (by omega))
theorem between_loop (w h : Int) (A : Option Addr) (c : Nat) (xs : List Int) (hx : RdI M .u8 A xs) (bx : Bytes xs) (hc : xs.length ≤ c) (hk : checkS w h xs.length = 0) (x y bw bh k : Int) (hx0 : -500 ≤ x ∧ x ≤ 1499) (hy0 : -500 ≤ y ∧ y ≤ 1499) (hw0 : 4 ≤ bw ∧ bw ≤ 16) (hh0 : 4 ≤ bh ∧ bh ≤ 16) (hlo : lo ≤ M.length) :
    ∀ (d i : Nat) (l m : Int), xs.length - i = d → i ≤ xs.length → 0 ≤ l → m ≤ 255 → l ≤ 255 → 0 ≤ m → (∀ j, j < i → l ≤ xs.getD j 0 ∧ xs.getD j 0 ≤ m) →
      Run P T lo F.zoetropelaw14_SubpelBetween (zoetropelaw14_SubpelBetween.c1012 l m i w h A xs.length c x y bw bh k M) fun r => r.1 = .bool true := by
  have hl := checkS_len' hk
  intro d
  induction d with
  | zero =>
    intro i l m hd hi hl0 hm0 hl1 hm1 hall
    obtain rfl : i = xs.length := by omega
    refine Run.cut (Evp.of_eq (fun k => zoetropelaw14_SubpelBetween.p1012 k ..) ?_)
    refine Evp.dec (fun h => absurd h (by omega)) fun _ => ?_
    refine Evp.ob (fetch_ok lo w h A c xs x y bw bh 2 M hx bx hc hlo) ?_
    intro r hr
    obtain ⟨B, cc, M2, rfl, p2, g2, k2⟩ := hr.got (fetchOk_of hk (by omega) (by omega) (by omega) (by omega) (by omega))
    simp only [ret_int, ret_bool, ret_flt, ret_slc, ret_str, ret_ptr, ret_agg, ret_tup, ob_some, bb_true, bb_false, List.getElem?_cons_zero, List.getElem?_cons_succ, List.length_cons, List.length_nil, Nat.reduceAdd, Nat.reduceLT]
    refine Evp.ff rfl ?_
    have hlen := fetchS_len w h xs x y bw.toNat bh.toNat 2
    have e : bw * bh = ((bh.toNat * bw.toNat : Nat) : Int) := by rw [Int.natCast_mul, Int.toNat_of_nonneg (by omega), Int.toNat_of_nonneg (by omega), Int.mul_comm]
    have hmm : bh.toNat * bw.toNat ≤ 16 * 16 := Nat.mul_le_mul (by omega) (by omega)
    rw [e, w64 (by omega)]
    refine Evp.ff (by rw [hlen]; simp) ?_
    refine Evp.ret (between_end lo M2 l m B cc _ k2.rdI (by omega) (fun q hq => ?_) _ 0 rfl (by omega))
    rw [hlen] at hq
    rw [fetchS_get _ _ _ _ _ _ _ _ hq]
    exact samp_between ⟨hl.1, hl.2.1, hl.2.2.1, hl.2.2.2.1⟩ hl.2.2.2.2 l m hl0 hm0 (fun j hj => hall j hj) x y _ _
  | succ d ih =>
    intro i l m hd hi hl0 hm0 hl1 hm1 hall
    refine Run.cut (Evp.of_eq (fun k => zoetropelaw14_SubpelBetween.p1012 k ..) ?_)
    refine Evp.dec (fun _ => ?_) fun h => absurd h (by omega)
    refine Evp.pos (by omega) ?_
    simp only [Int.toNat_natCast]
    refine Evp.ldI hx (by omega) fun _ _ => ?_
    refine Evp.pos (by omega) ?_
    refine Evp.ldI hx (by omega) fun _ _ => ?_
    have hb := bx.get i
    rw [w64 (by have := hl.2.2.2.2; have := area (w := w) (h := h) ⟨hl.1, hl.2.1, hl.2.2.1, hl.2.2.2.1⟩; omega)]
    have h1 : minI l (xs.getD i 0) ≤ l ∧ minI l (xs.getD i 0) ≤ xs.getD i 0 ∧ 0 ≤ minI l (xs.getD i 0) := by unfold minI; split <;> omega
    have h2 : m ≤ maxI m (xs.getD i 0) ∧ xs.getD i 0 ≤ maxI m (xs.getD i 0) ∧ maxI m (xs.getD i 0) ≤ 255 := by unfold maxI; split <;> omega
    refine Evp.ret (ih (i + 1) _ _ (by omega) (by omega) (by omega) (by omega) (by omega) (by omega) fun j hj => ?_)
    by_cases hji : j = i
    · subst hji; omega
    · have := hall j (by omega); omega
end
theorem SubpelBetween_law (M : Mem) (vs : List Value) (hro : AllRo M) (hv : LaysArgs P M [30, 32] vs) : Ac P T M.length F.zoetropelaw14_SubpelBetween vs M fun r => r.1 = .bool true := by
  obtain ⟨w, h, A, c, xs, lx, ly, lw, lh, lk, rfl, _, _, hc, hn, hx, wx, _⟩ := Arg.SubpelBetween hv
  have bx : Bytes xs := fun x hx => wf_u8 (wx x hx)
  refine Ac.of (Evp.of_eq (fun k => zoetropelaw14_SubpelBetween.entry k ..) ?_)
  refine Evp.ob (works_ok _ _ (Nat.le_refl _)) ?_
  rintro _ ⟨M1, rfl, p1⟩
  simp only [ret_int, ret_bool, ret_flt, ret_slc, ret_str, ret_ptr, ret_agg, ret_tup, ob_some, bb_true, bb_false, List.getElem?_cons_zero, List.getElem?_cons_succ, List.length_cons, List.length_nil, Nat.reduceAdd, Nat.reduceLT]
  refine Evp.ff rfl ?_
  refine Evp.ob (check_ok ..) ?_
  rintro _ rfl
  simp only [ret_int, ret_bool, ret_flt, ret_slc, ret_str, ret_ptr, ret_agg, ret_tup, ob_some, bb_true, bb_false, List.getElem?_cons_zero, List.getElem?_cons_succ, List.length_cons, List.length_nil, Nat.reduceAdd, Nat.reduceLT]
  refine Evp.neb (fun _ => Evp.ret (Run.ret rfl)) fun hk => ?_
  refine Evp.ob (may_ok ..) ?_
  rintro _ ⟨x, y, bw, bh, k, rfl, hx0, hy0, hw0, hh0, hk0⟩
  simp only [ret_int, ret_bool, ret_flt, ret_slc, ret_str, ret_ptr, ret_agg, ret_tup, ob_some, bb_true, bb_false, List.getElem?_cons_zero, List.getElem?_cons_succ, List.length_cons, List.length_nil, Nat.reduceAdd, Nat.reduceLT]
  exact Evp.ret (between_loop M.length M1 w h A c xs (hx.pre p1) bx hc hk x y bw bh k hx0 hy0 hw0 hh0 p1.len _ 0 255 0 rfl (by omega) (by omega) (by omega) (by omega) (by omega) (fun j hj => by omega))
end Go.Zt
