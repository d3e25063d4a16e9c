/- MotionKnown. -/
import Derived.Test.YtgpobephldelaaaFo
set_option linter.unusedVariables false
set_option linter.unusedSimpArgs false
set_option maxRecDepth 100000
namespace Go.Zt
theorem sumT_const (t : List Int) (v : Int) (n : Nat) : sumT t (fun _ => v) n = v * sumT t (fun _ => 1) n := by
  induction n with
  | zero => simp [sumT]
  | succ n ih => simp only [sumT]; rw [ih, Int.mul_add, Int.mul_one, Int.mul_comm v (t.getD n 0)]
theorem taps128 {k a : Int} (hk : 0 ≤ k ∧ k ≤ 2) (ha : 0 ≤ a ∧ a ≤ 15) : sumT (tapsS k a) (fun _ => 1) 8 = 128 := by
  obtain ⟨n, rfl⟩ := Int.eq_ofNat_of_zero_le ha.1
  have h0 : ∀ n, n < 16 → sumT (tapsS 0 (n : Nat)) (fun _ => 1) 8 = 128 := by decide
  have h1 : ∀ n, n < 16 → sumT (tapsS 1 (n : Nat)) (fun _ => 1) 8 = 128 := by decide
  have h2 : ∀ n, n < 16 → sumT (tapsS 2 (n : Nat)) (fun _ => 1) 8 = 128 := by decide
  have : k = 0 ∨ k = 1 ∨ k = 2 := by omega
  rcases this with rfl | rfl | rfl
  · exact h0 n (by omega)
  · exact h1 n (by omega)
  · exact h2 n (by omega)
theorem pixS_in {w h : Int} {xs : List Int} (hs : 1 ≤ w ∧ w ≤ 512 ∧ 1 ≤ h ∧ h ≤ 512) (hn : (xs.length : Int) = w * h) (y x : Int) : ∃ i, i < xs.length ∧ pixS w h xs y x = xs.getD i 0 := by
  have h1 := clipS_le (v := y) (a := 0) (b := h - 1) (by omega)
  have h2 := clipS_le (v := x) (a := 0) (b := w - 1) (by omega)
  have h3 : clipS y 0 (h - 1) * w ≤ (h - 1) * w := Int.mul_le_mul_of_nonneg_right h1.2 (by omega)
  have h4 : (h - 1) * w = w * h - w := by rw [Int.sub_mul, Int.mul_comm h w]; omega
  have h0 : 0 ≤ clipS y 0 (h - 1) * w := Int.mul_nonneg h1.1 (by omega)
  exact ⟨_, by omega, rfl⟩
theorem samp_flat {w h : Int} {v : Int} {n : Nat} (hv : 0 ≤ v ∧ v ≤ 255) (hs : 1 ≤ w ∧ w ≤ 512 ∧ 1 ≤ h ∧ h ≤ 512) (hn : (n : Int) = w * h) {k : Int} (hk : 0 ≤ k ∧ k ≤ 2) (x y : Int) (j i : Nat) : sampS w h (List.replicate n v) (tapsS k (x % 16)) (tapsS k (y % 16)) x y j i = v := by
  have hp : ∀ y x, pixS w h (List.replicate n v) y x = v := fun y x => by
    obtain ⟨q, h1, h2⟩ := pixS_in (xs := List.replicate n v) hs (by simpa using hn) y x
    rw [h2, List.getD_eq_getElem?_getD, List.getElem?_replicate, if_pos (by simpa using h1)]; rfl
  have hr : ∀ j : Nat, rowS w h (List.replicate n v) (tapsS k (x % 16)) x y j i = 16 * v := fun j => by
    unfold rowS
    rw [sumT_congr (q := fun _ => v) fun k' _ => hp _ _, sumT_const, taps128 hk (by omega)]
    omega
  unfold sampS
  rw [sumT_congr (q := fun _ => 16 * v) fun k' _ => hr _, sumT_const, taps128 hk (by omega), show (1024 + 16 * v * 128) / 2048 = v by omega]
  unfold clipS; rw [if_neg (by omega), if_neg (by omega)]
theorem w_good (lo : Nat) (n : Nat) (M : Mem) (hlo : lo ≤ M.length) (h : 4 ≤ n ∧ n ≤ 32) : Ac P T lo F.motion_Weights [.int .i64 n] M fun r => ∃ a cc M', r = (.tuple ⟨[.slice (some a) n cc, .int .i64 0]⟩, M') ∧ Pre M M' ∧ RdI M' .i64 (some a) (wL n) := by
  refine Ac.mono (weights_ok lo n M hlo) ?_
  rintro ⟨v, M'⟩ ⟨p, hw⟩
  rw [if_pos (by omega)] at hw
  obtain ⟨a, cc, e, _, b1⟩ := hw
  simp only at e
  subst e
  exact ⟨a, cc, M', by simp only [Int.toNat_natCast], p, b1.rdI⟩
theorem w_bad (lo : Nat) (n : Int) (M : Mem) (hlo : lo ≤ M.length) (h : ¬ (4 ≤ n ∧ n ≤ 32)) : Ac P T lo F.motion_Weights [.int .i64 n] M fun r => ∃ M', r = (.tuple ⟨[.slice none 0 0, .int .i64 2]⟩, M') ∧ Pre M M' := by
  refine Ac.mono (weights_ok lo n M hlo) ?_
  rintro ⟨v, M'⟩ ⟨p, hw⟩
  rw [if_neg h] at hw
  simp only at hw
  subst hw
  exact ⟨M', rfl, p⟩
abbrev badL : List Int := [3, 0, 0, 4, 4, 0, 0, 0, -1, 0, 0, 4, 4, 0, 0, 0, 0, -1, 0, 4, 4, 0, 0, 0, 0, 0, 1025, 4, 4, 0, 0, 0, 0, 0, 0, 3, 4, 0, 0, 0, 0, 0, 0, 4, 65, 0, 0, 0, 0, 0, 0, 4, 4, 4096, 0, 0, 0, 0, 0, 4, 4, -4096, 0, 0, 0, 0, 0, 4, 4, 0, 4096, 0, 0, 0, 0, 4, 4, 0, -4096, 0, 0, 0, 0, 4, 4, 0, 0, 3, 0, 0, 0, 4, 4, 0, 0, -1]
theorem bad_bad : ∀ i, i < 12 → ¬ (SingleOk 16 16 256 8 8 64 8 8 64 (badL.getD (i * 8) 0) (badL.getD (i * 8 + 1) 0) (badL.getD (i * 8 + 1 + 1) 0) (badL.getD (i * 8 + 1 + 2) 0) (badL.getD (i * 8 + 1 + 3) 0) (badL.getD (i * 8 + 5) 0) (badL.getD (i * 8 + 5 + 1) 0) ∧ 0 ≤ badL.getD (i * 8 + 7) 0 ∧ badL.getD (i * 8 + 7) 0 ≤ 2) := by decide +kernel
abbrev rectsL : List Int := [0, 0, 1, 3, 1, 0, 2, 4, 0, 1, 1, 4, -1, 0, 1, 4, 0, 0, 1, 33, 0, 0, 0, 4]
theorem rects_bad : ∀ i, i < 6 → ¬ (LiesP 8 2 (rectsL.getD (i * 4) 0) (rectsL.getD (i * 4 + 1) 0) (rectsL.getD (i * 4 + 2) 0) (rectsL.getD (i * 4 + 3) 0) ∧ 4 ≤ rectsL.getD (i * 4 + 3) 0 ∧ rectsL.getD (i * 4 + 3) 0 ≤ 32) := by decide +kernel
theorem rects_n : ∀ i, i < 6 → 0 ≤ rectsL.getD (i * 4 + 2) 0 * rectsL.getD (i * 4 + 3) 0 ∧ rectsL.getD (i * 4 + 2) 0 * rectsL.getD (i * 4 + 3) 0 ≤ 100 := by decide +kernel
theorem ldI_at {M : Mem} {a : Addr} {xs : List Int} (h : RdI M .i64 (some a) xs) {i : Nat} (hi : i < xs.length) : (M.ld (plus a i)).bind (Value.int? .i64) = some (xs.getD i 0) := by
  obtain ⟨a', e, _, h1⟩ := h.ld hi
  injection e with e; subst e
  rw [h1]; simp [Value.int?]
/-- A call that is refused. -/
theorem above_no (lo : Nat) (A B : Option Addr) (c cb : Nat) (own other : List Int) (M0 : Mem) (w x y rw rh : Int) (hlo : lo ≤ M0.length) (hx : RdI M0 .u8 A own) (hy : RdI M0 .u8 B other) (bo : Bytes own) (bt : Bytes other) (hn : own.length ≤ 140737488351232) (hno : ¬ (LiesP own.length w x y rw rh ∧ (4 ≤ rh ∧ rh ≤ 32) ∧ (other.length : Int) = rw * rh)) :
    Ac P T lo F.motion_Above [.slice A own.length c, .int .i64 w, .agg ⟨[.int .i64 x, .int .i64 y, .int .i64 rw, .int .i64 rh]⟩, .slice B other.length cb] M0 fun r => ∃ M', r = (.tuple ⟨[.slice none 0 0, .int .i64 2]⟩, M') ∧ Pre M0 M' := by
  refine Ac.mono (above_ok lo A B c cb own other M0 w x y rw rh hlo hx hy bo bt hn) ?_
  rintro ⟨v, M'⟩ h
  obtain ⟨rfl, p⟩ := h.not hno
  exact ⟨M', rfl, p⟩
theorem left_no (lo : Nat) (A B : Option Addr) (c cb : Nat) (own other : List Int) (M0 : Mem) (w x y rw rh : Int) (hlo : lo ≤ M0.length) (hx : RdI M0 .u8 A own) (hy : RdI M0 .u8 B other) (bo : Bytes own) (bt : Bytes other) (hn : own.length ≤ 140737488351232) (hno : ¬ (LiesP own.length w x y rw rh ∧ (4 ≤ rw ∧ rw ≤ 32) ∧ (other.length : Int) = rw * rh)) :
    Ac P T lo F.motion_Left [.slice A own.length c, .int .i64 w, .agg ⟨[.int .i64 x, .int .i64 y, .int .i64 rw, .int .i64 rh]⟩, .slice B other.length cb] M0 fun r => ∃ M', r = (.tuple ⟨[.slice none 0 0, .int .i64 2]⟩, M') ∧ Pre M0 M' := by
  refine Ac.mono (left_ok lo A B c cb own other M0 w x y rw rh hlo hx hy bo bt hn) ?_
  rintro ⟨v, M'⟩ h
  obtain ⟨rfl, p⟩ := h.not hno
  exact ⟨M', rfl, p⟩
theorem far_flat : singleL 16 16 8 8 8 8 (List.replicate 256 5) (List.replicate 64 5) (List.replicate 64 5) 2 1024 1024 64 64 4095 (-4095) 1 = List.replicate 4096 5 := by
  refine ext_getD (by rw [singleL_len]; simp) fun q hq => ?_
  rw [singleL_len] at hq
  have hq' : q < 64 * 64 := hq
  unfold singleL fetchS
  rw [getD_map_range hq]
  have e : pk 2 (List.replicate 256 (5 : Int)) (List.replicate 64 5) (List.replicate 64 5) = List.replicate 64 5 := rfl
  rw [e, samp_flat (w := pk 2 16 8 8) (h := pk 2 16 8 8) (by decide) (by decide) (by decide) (by decide), List.getD_eq_getElem?_getD, List.getElem?_replicate, if_pos (by omega)]
  rfl
section
variable (lo : Nat) (M0 : Mem) (hlo : lo ≤ M0.length) (D R : Addr) (cd : Nat) (N : Option Addr) (cn : Nat)
variable (hD : RdI M0 .u8 (some D) (List.replicate 4096 5)) (hR : RdI M0 .i64 (some R) rectsL)
include hlo hD hR
theorem known_rects : ∀ (d i : Nat) (M : Mem), 6 - i = d → i ≤ 6 → Pre M0 M → Run P T lo F.zoetropelaw15_MotionKnown (zoetropelaw15_MotionKnown.c2097140 true (some D) 4096 cd 0 2 2 N 0 cn 0 (some R) 6 6 i M) fun r => r.1 = .bool true := by
  have b1 : ∀ n, Bytes (List.replicate n (1 : Int)) := fun n => rep_bytes (by decide)
  have b2 : ∀ n, Bytes (List.replicate n (2 : Int)) := fun n => rep_bytes (by decide)
  have rl : ∀ (n : Nat) (v : Int), (List.replicate n v).length = n := fun n v => List.length_replicate
  intro d
  induction d with
  | zero =>
    intro i M hd hi hp
    obtain rfl : i = 6 := by omega
    have one : ∀ (n k : Nat) (w rw rh : Int) (M : Mem), lo ≤ M.length → n ≤ 1000 → k ≤ 1000 → ¬ (LiesP n w 0 0 rw rh ∧ (4 ≤ rh ∧ rh ≤ 32) ∧ (k : Int) = rw * rh) → ∀ a b : Addr, RdI M .u8 (some a) (List.replicate n 1) → RdI M .u8 (some b) (List.replicate k 2) → Ac P T lo F.motion_Above [.slice (some a) n n, .int .i64 w, .agg ⟨[.int .i64 0, .int .i64 0, .int .i64 rw, .int .i64 rh]⟩, .slice (some b) k k] M fun r => ∃ M', r = (.tuple ⟨[.slice none 0 0, .int .i64 2]⟩, M') ∧ Pre M M' := fun n k w rw rh M hl hn hk hno a b ha hb => by
      have := above_no lo (some a) (some b) n k (List.replicate n 1) (List.replicate k 2) M w 0 0 rw rh hl ha hb (b1 n) (b2 k) (by rw [rl]; omega) (by rw [rl, rl]; exact hno)
      rw [rl, rl] at this
      exact this
    have two : ∀ (A : Option Addr) (n k : Nat) (w rw rh : Int) (M : Mem), lo ≤ M.length → n ≤ 1000 → k ≤ 1000 → ¬ (LiesP n w 0 0 rw rh ∧ (4 ≤ rw ∧ rw ≤ 32) ∧ (k : Int) = rw * rh) → ∀ b : Addr, RdI M .u8 A (List.replicate n 1) → RdI M .u8 (some b) (List.replicate k 2) → Ac P T lo F.motion_Left [.slice A n n, .int .i64 w, .agg ⟨[.int .i64 0, .int .i64 0, .int .i64 rw, .int .i64 rh]⟩, .slice (some b) k k] M fun r => ∃ M', r = (.tuple ⟨[.slice none 0 0, .int .i64 2]⟩, M') ∧ Pre M M' := fun A n k w rw rh M hl hn hk hno b ha hb => by
      have := left_no lo A (some b) n k (List.replicate n 1) (List.replicate k 2) M w 0 0 rw rh hl ha hb (b1 n) (b2 k) (by rw [rl]; omega) (by rw [rl, rl]; exact hno)
      rw [rl, rl] at this
      exact this
    have h0 := Nat.le_trans hlo hp.len
    refine Run.cut (Evp.of_eq (fun k => zoetropelaw15_MotionKnown.p2097140 k ..) ?_)
    refine Evp.dec (fun h => absurd h (by decide)) fun _ => ?_
    refine Evp.ob (flat_ok lo 7 1 M (by omega) h0) ?_
    rintro _ ⟨a1, M1, rfl, p1, c1⟩
    simp only [ret_int, ret_bool, ret_flt, ret_slc, ret_str, ret_ptr, ret_agg, ret_tup, ob_some, bb_true, bb_false, List.getElem?_cons_zero, List.getElem?_cons_succ, List.length_cons, List.length_nil, Nat.reduceAdd, Nat.reduceLT]
    refine Evp.ob (flat_ok lo 3 2 M1 (by omega) (Nat.le_trans h0 p1.len)) ?_
    rintro _ ⟨a2, M2, rfl, p2, c2⟩
    simp only [ret_int, ret_bool, ret_flt, ret_slc, ret_str, ret_ptr, ret_agg, ret_tup, ob_some, bb_true, bb_false, List.getElem?_cons_zero, List.getElem?_cons_succ, List.length_cons, List.length_nil, Nat.reduceAdd, Nat.reduceLT]
    have q2 := p1.trans p2
    refine Evp.ob (one 7 3 2 1 3 M2 (Nat.le_trans h0 q2.len) (by decide) (by decide) (by decide) a1 a2 (c1.rdI.pre p2) c2.rdI) ?_
    rintro _ ⟨M3, rfl, p3⟩
    simp only [ret_int, ret_bool, ret_flt, ret_slc, ret_str, ret_ptr, ret_agg, ret_tup, ob_some, bb_true, bb_false, List.getElem?_cons_zero, List.getElem?_cons_succ, List.length_cons, List.length_nil, Nat.reduceAdd, Nat.reduceLT]
    have q3 := q2.trans p3
    refine Evp.ob (flat_ok lo 8 1 M3 (by omega) (Nat.le_trans h0 q3.len)) ?_
    rintro _ ⟨a4, M4, rfl, p4, c4⟩
    simp only [ret_int, ret_bool, ret_flt, ret_slc, ret_str, ret_ptr, ret_agg, ret_tup, ob_some, bb_true, bb_false, List.getElem?_cons_zero, List.getElem?_cons_succ, List.length_cons, List.length_nil, Nat.reduceAdd, Nat.reduceLT]
    have q4 := q3.trans p4
    refine Evp.ob (flat_ok lo 4 2 M4 (by omega) (Nat.le_trans h0 q4.len)) ?_
    rintro _ ⟨a5, M5, rfl, p5, c5⟩
    simp only [ret_int, ret_bool, ret_flt, ret_slc, ret_str, ret_ptr, ret_agg, ret_tup, ob_some, bb_true, bb_false, List.getElem?_cons_zero, List.getElem?_cons_succ, List.length_cons, List.length_nil, Nat.reduceAdd, Nat.reduceLT]
    have q5 := q4.trans p5
    refine Evp.ob (one 8 4 0 1 4 M5 (Nat.le_trans h0 q5.len) (by decide) (by decide) (by decide) a4 a5 (c4.rdI.pre p5) c5.rdI) ?_
    rintro _ ⟨M6, rfl, p6⟩
    simp only [ret_int, ret_bool, ret_flt, ret_slc, ret_str, ret_ptr, ret_agg, ret_tup, ob_some, bb_true, bb_false, List.getElem?_cons_zero, List.getElem?_cons_succ, List.length_cons, List.length_nil, Nat.reduceAdd, Nat.reduceLT]
    have q6 := q5.trans p6
    refine Evp.ob (flat_ok lo 260 1 M6 (by omega) (Nat.le_trans h0 q6.len)) ?_
    rintro _ ⟨a7, M7, rfl, p7, c7⟩
    simp only [ret_int, ret_bool, ret_flt, ret_slc, ret_str, ret_ptr, ret_agg, ret_tup, ob_some, bb_true, bb_false, List.getElem?_cons_zero, List.getElem?_cons_succ, List.length_cons, List.length_nil, Nat.reduceAdd, Nat.reduceLT]
    have q7 := q6.trans p7
    refine Evp.ob (flat_ok lo 4 2 M7 (by omega) (Nat.le_trans h0 q7.len)) ?_
    rintro _ ⟨a8, M8, rfl, p8, c8⟩
    simp only [ret_int, ret_bool, ret_flt, ret_slc, ret_str, ret_ptr, ret_agg, ret_tup, ob_some, bb_true, bb_false, List.getElem?_cons_zero, List.getElem?_cons_succ, List.length_cons, List.length_nil, Nat.reduceAdd, Nat.reduceLT]
    have q8 := q7.trans p8
    refine Evp.ob (one 260 4 65 1 4 M8 (Nat.le_trans h0 q8.len) (by decide) (by decide) (by decide) a7 a8 (c7.rdI.pre p8) c8.rdI) ?_
    rintro _ ⟨M9, rfl, p9⟩
    simp only [ret_int, ret_bool, ret_flt, ret_slc, ret_str, ret_ptr, ret_agg, ret_tup, ob_some, bb_true, bb_false, List.getElem?_cons_zero, List.getElem?_cons_succ, List.length_cons, List.length_nil, Nat.reduceAdd, Nat.reduceLT]
    have q9 := q8.trans p9
    refine Evp.ob (flat_ok lo 260 1 M9 (by omega) (Nat.le_trans h0 q9.len)) ?_
    rintro _ ⟨a10, M10, rfl, p10, c10⟩
    simp only [ret_int, ret_bool, ret_flt, ret_slc, ret_str, ret_ptr, ret_agg, ret_tup, ob_some, bb_true, bb_false, List.getElem?_cons_zero, List.getElem?_cons_succ, List.length_cons, List.length_nil, Nat.reduceAdd, Nat.reduceLT]
    have q10 := q9.trans p10
    refine Evp.ob (flat_ok lo 4 2 M10 (by omega) (Nat.le_trans h0 q10.len)) ?_
    rintro _ ⟨a11, M11, rfl, p11, c11⟩
    simp only [ret_int, ret_bool, ret_flt, ret_slc, ret_str, ret_ptr, ret_agg, ret_tup, ob_some, bb_true, bb_false, List.getElem?_cons_zero, List.getElem?_cons_succ, List.length_cons, List.length_nil, Nat.reduceAdd, Nat.reduceLT]
    have q11 := q10.trans p11
    refine Evp.ob (two (some a10) 260 4 4 4 1 M11 (Nat.le_trans h0 q11.len) (by decide) (by decide) (by decide) a11 (c10.rdI.pre p11) c11.rdI) ?_
    rintro _ ⟨M12, rfl, p12⟩
    simp only [ret_int, ret_bool, ret_flt, ret_slc, ret_str, ret_ptr, ret_agg, ret_tup, ob_some, bb_true, bb_false, List.getElem?_cons_zero, List.getElem?_cons_succ, List.length_cons, List.length_nil, Nat.reduceAdd, Nat.reduceLT]
    have q12 := q11.trans p12
    refine Evp.ob (flat_ok lo 8 1 M12 (by omega) (Nat.le_trans h0 q12.len)) ?_
    rintro _ ⟨a13, M13, rfl, p13, c13⟩
    simp only [ret_int, ret_bool, ret_flt, ret_slc, ret_str, ret_ptr, ret_agg, ret_tup, ob_some, bb_true, bb_false, List.getElem?_cons_zero, List.getElem?_cons_succ, List.length_cons, List.length_nil, Nat.reduceAdd, Nat.reduceLT]
    have q13 := q12.trans p13
    refine Evp.ob (flat_ok lo 3 2 M13 (by omega) (Nat.le_trans h0 q13.len)) ?_
    rintro _ ⟨a14, M14, rfl, p14, c14⟩
    simp only [ret_int, ret_bool, ret_flt, ret_slc, ret_str, ret_ptr, ret_agg, ret_tup, ob_some, bb_true, bb_false, List.getElem?_cons_zero, List.getElem?_cons_succ, List.length_cons, List.length_nil, Nat.reduceAdd, Nat.reduceLT]
    have q14 := q13.trans p14
    refine Evp.ob (two (some a13) 8 3 4 4 1 M14 (Nat.le_trans h0 q14.len) (by decide) (by decide) (by decide) a14 (c13.rdI.pre p14) c14.rdI) ?_
    rintro _ ⟨M15, rfl, p15⟩
    simp only [ret_int, ret_bool, ret_flt, ret_slc, ret_str, ret_ptr, ret_agg, ret_tup, ob_some, bb_true, bb_false, List.getElem?_cons_zero, List.getElem?_cons_succ, List.length_cons, List.length_nil, Nat.reduceAdd, Nat.reduceLT]
    have q15 := q14.trans p15
    refine Evp.ob (flat_ok lo 4 2 M15 (by omega) (Nat.le_trans h0 q15.len)) ?_
    rintro _ ⟨a16, M16, rfl, p16, c16⟩
    simp only [ret_int, ret_bool, ret_flt, ret_slc, ret_str, ret_ptr, ret_agg, ret_tup, ob_some, bb_true, bb_false, List.getElem?_cons_zero, List.getElem?_cons_succ, List.length_cons, List.length_nil, Nat.reduceAdd, Nat.reduceLT]
    have q16 := q15.trans p16
    refine Evp.ob (two none 0 4 4 4 1 M16 (Nat.le_trans h0 q16.len) (by decide) (by decide) (by decide) a16 RdI.nil c16.rdI) ?_
    rintro _ ⟨M17, rfl, p17⟩
    simp only [ret_int, ret_bool, ret_flt, ret_slc, ret_str, ret_ptr, ret_agg, ret_tup, ob_some, bb_true, bb_false, List.getElem?_cons_zero, List.getElem?_cons_succ, List.length_cons, List.length_nil, Nat.reduceAdd, Nat.reduceLT]
    have q17 := q16.trans p17
    refine Evp.tt rfl (Evp.tt rfl (Evp.tt rfl (Evp.tt rfl (Evp.tt rfl (Evp.tt rfl (Evp.tt rfl (Evp.tt rfl (Evp.tt rfl ?_))))))))
    refine Evp.ob (works_ok lo M17 (Nat.le_trans h0 q17.len)) ?_
    rintro _ ⟨M18, rfl, p18⟩
    simp only [ret_int, ret_bool, ret_flt, ret_slc, ret_str, ret_ptr, ret_agg, ret_tup, ob_some, bb_true, bb_false, List.getElem?_cons_zero, List.getElem?_cons_succ, List.length_cons, List.length_nil, Nat.reduceAdd, Nat.reduceLT]
    refine Evp.tt rfl (Evp.tt rfl (Evp.tt rfl ?_))
    have q18 := q17.trans p18
    refine Evp.ob (flat_ok lo 4096 5 M18 (by omega) (Nat.le_trans h0 q18.len)) ?_
    rintro _ ⟨a19, M19, rfl, p19, c19⟩
    simp only [ret_int, ret_bool, ret_flt, ret_slc, ret_str, ret_ptr, ret_agg, ret_tup, ob_some, bb_true, bb_false, List.getElem?_cons_zero, List.getElem?_cons_succ, List.length_cons, List.length_nil, Nat.reduceAdd, Nat.reduceLT]
    have E := eqBytes_ok lo (some D) (some a19) cd 4096 (List.replicate 4096 5) (List.replicate 4096 5) M19 (((hD.pre hp).pre q18).pre p19) c19.rdI (by rw [rl]; omega)
    rw [rl] at E
    refine Evp.ob E ?_
    rintro _ rfl
    simp only [ret_int, ret_bool, ret_flt, ret_slc, ret_str, ret_ptr, ret_agg, ret_tup, ob_some, bb_true, bb_false, List.getElem?_cons_zero, List.getElem?_cons_succ, List.length_cons, List.length_nil, Nat.reduceAdd, Nat.reduceLT]
    exact Evp.tt (by simp) (Evp.ret (Run.ret rfl))
  | succ d ih =>
    intro i M hd hi hp
    have hi6 : i < 6 := by omega
    have h0 := Nat.le_trans hlo hp.len
    have rb := rects_bad i hi6
    have rn := rects_n i hi6
    refine Run.cut (Evp.of_eq (fun k => zoetropelaw15_MotionKnown.p2097140 k ..) ?_)
    refine Evp.dec (fun _ => ?_) fun h => absurd h (by omega)
    refine Evp.ob (flat_ok M.length 8 1 M (by omega) (Nat.le_refl _)) ?_
    rintro _ ⟨a1, M1, rfl, p1, c1⟩
    simp only [ret_int, ret_bool, ret_flt, ret_slc, ret_str, ret_ptr, ret_agg, ret_tup, ob_some, bb_true, bb_false, List.getElem?_cons_zero, List.getElem?_cons_succ, List.length_cons, List.length_nil, Nat.reduceAdd, Nat.reduceLT]
    have hb : ∀ k, (plus R k).block < M.length := fun k => by
      rw [plus_block]
      obtain ⟨a, e, hab, _⟩ := (hR.pre hp).ld (i := 0) (by decide)
      injection e with e; subst e; exact hab
    have hr : ∀ k, k < 24 → (M1.ld (plus R k)).bind (Value.int? .i64) = some (rectsL.getD k 0) := fun k hk => ldI_at ((hR.pre hp).pre p1) hk
    refine Evp.pos (by omega) ?_
    simp only [Int.toNat_natCast, plus_plus]
    refine Evp.some rfl ?_
    simp only [hb, if_true]
    refine Evp.some (hr (i * 4) (by omega)) (Evp.some (hr (i * 4 + 1) (by omega)) (Evp.some (hr (i * 4 + 2) (by omega)) (Evp.some (hr (i * 4 + 3) (by omega)) ?_)))
    refine Evp.pos (by omega) (Evp.some rfl ?_)
    simp only [hb, if_true]
    refine Evp.some (hr (i * 4 + 2) (by omega)) ?_
    refine Evp.pos (by omega) (Evp.some rfl ?_)
    simp only [hb, if_true]
    refine Evp.some (hr (i * 4 + 3) (by omega)) ?_
    generalize rectsL.getD (i * 4) 0 = x at *
    generalize rectsL.getD (i * 4 + 1) 0 = y at *
    generalize rectsL.getD (i * 4 + 2) 0 = w at *
    generalize rectsL.getD (i * 4 + 3) 0 = h at *
    obtain ⟨n, en⟩ := Int.eq_ofNat_of_zero_le rn.1
    rw [en, w64 (x := (n : Int)) (by omega)]
    refine Evp.ob (flat_ok M.length n 2 M1 (by omega) p1.len) ?_
    rintro _ ⟨a2, M2, rfl, p2, c2⟩
    simp only [ret_int, ret_bool, ret_flt, ret_slc, ret_str, ret_ptr, ret_agg, ret_tup, ob_some, bb_true, bb_false, List.getElem?_cons_zero, List.getElem?_cons_succ, List.length_cons, List.length_nil, Nat.reduceAdd, Nat.reduceLT]
    have q2 := p1.trans p2
    have A := above_no M.length (some a1) (some a2) 8 n (List.replicate 8 1) (List.replicate n 2) M2 2 x y w h q2.len (c1.rdI.pre p2) c2.rdI (b1 8) (b2 n) (by rw [rl]; omega) (by rw [rl]; exact fun e => rb ⟨e.1, e.2.1⟩)
    rw [rl, rl] at A
    refine Evp.ob A ?_
    rintro _ ⟨M3, rfl, p3⟩
    simp only [ret_int, ret_bool, ret_flt, ret_slc, ret_str, ret_ptr, ret_agg, ret_tup, ob_some, bb_true, bb_false, List.getElem?_cons_zero, List.getElem?_cons_succ, List.length_cons, List.length_nil, Nat.reduceAdd, Nat.reduceLT]
    refine Evp.neb (fun g => absurd rfl g) fun _ => ?_
    rw [w64 (by omega)]
    exact Evp.ret (ih (i + 1) M3 (by omega) (by omega) (hp.trans (q2.trans p3)))
end
section
variable (lo : Nat) (M0 : Mem) (hlo : lo ≤ M0.length) (f0 f1 f2 B : Addr)
variable (g0 : RdI M0 .u8 (some f0) (List.replicate 256 5)) (g1 : RdI M0 .u8 (some f1) (List.replicate 64 5)) (g2 : RdI M0 .u8 (some f2) (List.replicate 64 5)) (hB : RdI M0 .i64 (some B) badL)
include hlo g0 g1 g2 hB
theorem known_bad : ∀ (d i : Nat) (M : Mem), 12 - i = d → i ≤ 12 → Pre M0 M → Run P T lo F.zoetropelaw15_MotionKnown (zoetropelaw15_MotionKnown.c32756 true (some B) 12 12 i 16 16 (some f0) 256 256 8 8 (some f1) 64 64 8 8 (some f2) 64 64 0 0 0 4 4 0 0 0 M) fun r => r.1 = .bool true := by
  have b5 : ∀ n, Bytes (List.replicate n (5 : Int)) := fun n => rep_bytes (by decide)
  have rl : ∀ (n : Nat) (v : Int), (List.replicate n v).length = n := fun n v => List.length_replicate
  have single : ∀ (n x y w h vx vy k : Int) (M : Mem), Pre M0 M → Ac P T lo F.motion_Single [.agg ⟨[.int .i64 16, .int .i64 16, .slice (some f0) 256 256, .int .i64 8, .int .i64 8, .slice (some f1) 64 64, .int .i64 8, .int .i64 8, .slice (some f2) 64 64]⟩, .int .i64 n, .agg ⟨[.int .i64 x, .int .i64 y, .int .i64 w, .int .i64 h]⟩, .agg ⟨[.int .i64 vx, .int .i64 vy]⟩, .int .i64 k] M (SingleR 16 16 8 8 8 8 (List.replicate 256 5) (List.replicate 64 5) (List.replicate 64 5) n x y w h vx vy k M) := fun n x y w h vx vy k M hp => by
    have := single_ok lo 16 16 8 8 8 8 (some f0) (some f1) (some f2) 256 64 64 (List.replicate 256 5) (List.replicate 64 5) (List.replicate 64 5) n x y w h vx vy k M (g0.pre hp) (g1.pre hp) (g2.pre hp) (b5 _) (b5 _) (b5 _) (by rw [rl]; omega) (by rw [rl]; omega) (by rw [rl]; omega) (Nat.le_trans hlo hp.len)
    rw [rl, rl] at this
    exact this
  intro d
  induction d with
  | zero =>
    intro i M hd hi hp
    obtain rfl : i = 12 := by omega
    have h0 := Nat.le_trans hlo hp.len
    refine Run.cut (Evp.of_eq (fun k => zoetropelaw15_MotionKnown.p32756 k ..) ?_)
    refine Evp.dec (fun h => absurd h (by decide)) fun _ => ?_
    refine Evp.ob (single 2 1024 1024 64 64 4095 (-4095) 1 M hp) ?_
    intro r hr
    obtain ⟨D, cd, M1, rfl, p1, o1⟩ := hr.yes (by rw [rl, rl]; decide)
    rw [far_flat] at o1 ⊢
    rw [rl]
    simp only [ret_int, ret_bool, ret_flt, ret_slc, ret_str, ret_ptr, ret_agg, ret_tup, ob_some, bb_true, bb_false, List.getElem?_cons_zero, List.getElem?_cons_succ, List.length_cons, List.length_nil, Nat.reduceAdd, Nat.reduceLT]
    have q1 := hp.trans p1
    refine Evp.ob (single_ok lo 0 0 0 0 0 0 none none none 0 0 0 [] [] [] 0 0 0 4 4 0 0 0 M1 RdI.nil RdI.nil RdI.nil (byl rfl) (byl rfl) (byl rfl) (by decide) (by decide) (by decide) (Nat.le_trans hlo q1.len)) ?_
    intro r hr
    obtain ⟨l, e, B2, cc, M2, rfl, p2, _, o2, _, q, hq, el, ee, qi⟩ := hr.cases
    rw [if_neg (fun h => absurd (qi.1 h).1 (by decide))] at ee
    subst ee
    simp only [ret_int, ret_bool, ret_flt, ret_slc, ret_str, ret_ptr, ret_agg, ret_tup, ob_some, bb_true, bb_false, List.getElem?_cons_zero, List.getElem?_cons_succ, List.length_cons, List.length_nil, Nat.reduceAdd, Nat.reduceLT]
    have q2 := q1.trans p2
    have x3 := Pre.app M2 [⟨.fx, ([1] : List Int).map (Value.int .u8)⟩]
    have q3 := q2.trans x3
    refine Evp.ob (pair_ok lo (some ⟨M2.length, 0, none⟩) none 1 0 [1] [] _ (Nat.le_trans hlo q3.len) (RdI.lit (k := .u8) [1]) RdI.nil (byl rfl) (byl rfl) (by decide)) ?_
    rintro ⟨v, M4⟩ h4
    obtain ⟨rfl, p4⟩ := h4.not (by decide)
    simp only [ret_int, ret_bool, ret_flt, ret_slc, ret_str, ret_ptr, ret_agg, ret_tup, ob_some, bb_true, bb_false, List.getElem?_cons_zero, List.getElem?_cons_succ, List.length_cons, List.length_nil, Nat.reduceAdd, Nat.reduceLT]
    have q4 := q3.trans p4
    refine Evp.ob (pair_ok lo none none 0 0 [] [] M4 (Nat.le_trans hlo q4.len) RdI.nil RdI.nil (byl rfl) (byl rfl) (by decide)) ?_
    rintro ⟨v, M5⟩ h5
    obtain ⟨N, cn, rfl, p5, _, o5⟩ := h5.got rfl
    simp only [ret_int, ret_bool, ret_flt, ret_slc, ret_str, ret_ptr, ret_agg, ret_tup, ob_some, bb_true, bb_false, List.getElem?_cons_zero, List.getElem?_cons_succ, List.length_cons, List.length_nil, Nat.reduceAdd, Nat.reduceLT]
    have q5 := q4.trans p5
    have x6 := Pre.app M5 [⟨.fx, rectsL.map (Value.int .i64)⟩]
    have q6 := q5.trans x6
    have hR : RdI (M5 ++ [⟨.fx, rectsL.map (Value.int .i64)⟩] : Mem) .i64 (some ⟨M5.length, 0, none⟩) rectsL := RdI.lit rectsL
    have rD := (((o1.rd.pre p2).pre (x3.trans p4)).pre p5).pre x6
    obtain ⟨D, rfl, _⟩ := o1.resolve_left (by decide)
    exact Evp.ret (known_rects lo _ (Nat.le_trans hlo q6.len) D ⟨M5.length, 0, none⟩ cd N cn rD hR 6 0 _ rfl (by decide) (Pre.refl _))
  | succ d ih =>
    intro i M hd hi hp
    have hi12 : i < 12 := by omega
    have bb := bad_bad i hi12
    have hr : ∀ k, k < 96 → (M.ld (plus B k)).bind (Value.int? .i64) = some (badL.getD k 0) := fun k hk => ldI_at (hB.pre hp) hk
    refine Run.cut (Evp.of_eq (fun k => zoetropelaw15_MotionKnown.p32756 k ..) ?_)
    refine Evp.dec (fun _ => ?_) fun h => absurd h (by omega)
    refine Evp.pos (by omega) ?_
    simp only [Int.toNat_natCast, plus_plus]
    refine Evp.some rfl (Evp.some (hr (i * 8) (by omega)) ?_)
    refine Evp.pos (by omega) (Evp.some rfl ?_)
    refine Evp.some (hr (i * 8 + 1) (by omega)) (Evp.some (hr (i * 8 + 1 + 1) (by omega)) (Evp.some (hr (i * 8 + 1 + 2) (by omega)) (Evp.some (hr (i * 8 + 1 + 3) (by omega)) ?_)))
    refine Evp.pos (by omega) (Evp.some rfl ?_)
    refine Evp.some (hr (i * 8 + 5) (by omega)) (Evp.some (hr (i * 8 + 5 + 1) (by omega)) ?_)
    refine Evp.pos (by omega) (Evp.some rfl ?_)
    refine Evp.some (hr (i * 8 + 7) (by omega)) ?_
    generalize badL.getD (i * 8) 0 = n at *
    generalize badL.getD (i * 8 + 1) 0 = x at *
    generalize badL.getD (i * 8 + 1 + 1) 0 = y at *
    generalize badL.getD (i * 8 + 1 + 2) 0 = w at *
    generalize badL.getD (i * 8 + 1 + 3) 0 = h at *
    generalize badL.getD (i * 8 + 5) 0 = vx at *
    generalize badL.getD (i * 8 + 5 + 1) 0 = vy at *
    generalize badL.getD (i * 8 + 7) 0 = k at *
    refine Evp.ob (single n x y w h vx vy k M hp) ?_
    intro r hr'
    obtain ⟨l, e, B2, cc, M2, rfl, p2, _, o2, _, q, hq, el, ee, qi⟩ := hr'.cases
    have nq : ¬ q := fun g => by
      have g' := qi.1 g
      rw [rl, rl] at g'
      obtain ⟨s1, s2⟩ := g'
      unfold FetchOk at s2
      exact bb ⟨s1, s2.2.2.2.2.2.2.2.2.2⟩
    rw [if_neg nq] at ee
    subst ee
    simp only [ret_int, ret_bool, ret_flt, ret_slc, ret_str, ret_ptr, ret_agg, ret_tup, ob_some, bb_true, bb_false, List.getElem?_cons_zero, List.getElem?_cons_succ, List.length_cons, List.length_nil, Nat.reduceAdd, Nat.reduceLT]
    refine Evp.neb (fun g => absurd rfl g) fun _ => ?_
    rw [w64 (by omega)]
    exact Evp.ret (ih (i + 1) M2 (by omega) (by omega) (hp.trans p2))
end
theorem MotionKnown_law (M : Mem) (vs : List Value) (hro : AllRo M) (hv : LaysArgs P M [] vs) : Ac P T M.length F.zoetropelaw15_MotionKnown vs M fun r => r.1 = .bool true := by
  obtain rfl := args_nil hv
  have l4 : wL 4 = [36, 44, 52, 60] := by decide +kernel
  have l8 := wL_len 8
  have l32 := wL_len 32
  refine Ac.of (Evp.of_eq (fun k => zoetropelaw15_MotionKnown.entry k ..) ?_)
  refine Evp.ob (w_good M.length 4 M (Nat.le_refl _) (by decide)) ?_
  rintro _ ⟨a1, c1, M1, rfl, p1, r1⟩
  simp only [ret_int, ret_bool, ret_flt, ret_slc, ret_str, ret_ptr, ret_agg, ret_tup, ob_some, bb_true, bb_false, List.getElem?_cons_zero, List.getElem?_cons_succ, List.length_cons, List.length_nil, Nat.reduceAdd, Nat.reduceLT]
  refine Evp.ob (w_good M.length 8 M1 p1.len (by decide)) ?_
  rintro _ ⟨a2, c2, M2, rfl, p2, r2⟩
  simp only [ret_int, ret_bool, ret_flt, ret_slc, ret_str, ret_ptr, ret_agg, ret_tup, ob_some, bb_true, bb_false, List.getElem?_cons_zero, List.getElem?_cons_succ, List.length_cons, List.length_nil, Nat.reduceAdd, Nat.reduceLT]
  have q2 := p1.trans p2
  refine Evp.ob (w_bad M.length 3 M2 q2.len (by decide)) ?_
  rintro _ ⟨M3, rfl, p3⟩
  simp only [ret_int, ret_bool, ret_flt, ret_slc, ret_str, ret_ptr, ret_agg, ret_tup, ob_some, bb_true, bb_false, List.getElem?_cons_zero, List.getElem?_cons_succ, List.length_cons, List.length_nil, Nat.reduceAdd, Nat.reduceLT]
  have q3 := q2.trans p3
  refine Evp.ob (w_bad M.length 33 M3 q3.len (by decide)) ?_
  rintro _ ⟨M4, rfl, p4⟩
  simp only [ret_int, ret_bool, ret_flt, ret_slc, ret_str, ret_ptr, ret_agg, ret_tup, ob_some, bb_true, bb_false, List.getElem?_cons_zero, List.getElem?_cons_succ, List.length_cons, List.length_nil, Nat.reduceAdd, Nat.reduceLT]
  have q4 := q3.trans p4
  refine Evp.ob (w_good M.length 32 M4 q4.len (by decide)) ?_
  rintro _ ⟨a5, c5, M5, rfl, p5, r5⟩
  simp only [ret_int, ret_bool, ret_flt, ret_slc, ret_str, ret_ptr, ret_agg, ret_tup, ob_some, bb_true, bb_false, List.getElem?_cons_zero, List.getElem?_cons_succ, List.length_cons, List.length_nil, Nat.reduceAdd, Nat.reduceLT]
  have q5 := q4.trans p5
  refine Evp.tt rfl (Evp.tt rfl (Evp.tt rfl (Evp.tt rfl (Evp.tt rfl ?_))))
  have x6 := Pre.app M5 [⟨.fx, ([36, 44, 52, 60] : List Int).map (Value.int .i64)⟩]
  have q6 := q5.trans x6
  have r1' := r1.pre ((((p2.trans p3).trans p4).trans p5).trans x6)
  rw [l4] at r1'
  refine Evp.ob (eqInts_ok M.length (some a1) _ c1 4 [36, 44, 52, 60] [36, 44, 52, 60] _ r1' (RdI.lit (k := .i64) [36, 44, 52, 60]) (by decide)) ?_
  rintro _ rfl
  simp only [ret_int, ret_bool, ret_flt, ret_slc, ret_str, ret_ptr, ret_agg, ret_tup, ob_some, bb_true, bb_false, List.getElem?_cons_zero, List.getElem?_cons_succ, List.length_cons, List.length_nil, Nat.reduceAdd, Nat.reduceLT]
  refine Evp.tt (by simp) (Evp.tt rfl (Evp.pos (by decide) ?_))
  have r2' := r2.pre (((p3.trans p4).trans p5).trans x6)
  have r5' := r5.pre x6
  refine Evp.ldI (i := 0) r2' (by omega) fun _ _ => ?_
  refine Evp.tt (by decide +kernel) (Evp.pos (by decide) ?_)
  refine Evp.ldI (i := 7) r2' (by omega) fun _ _ => ?_
  refine Evp.tt (by decide +kernel) (Evp.tt rfl (Evp.pos (by decide) ?_))
  refine Evp.ldI (i := 0) r5' (by omega) fun _ _ => ?_
  refine Evp.tt (by decide +kernel) (Evp.pos (by decide) ?_)
  refine Evp.ldI (i := 31) r5' (by omega) fun _ _ => ?_
  rw [show (wL 32).getD 31 0 = 63 by decide +kernel]
  refine Evp.ob (frame_ok M.length 16 16 5 _ q6.len (by decide)) ?_
  rintro _ ⟨f0, f1, f2, M7, rfl, p7, g0, g1, g2, _⟩
  simp only [ret_int, ret_bool, ret_flt, ret_slc, ret_str, ret_ptr, ret_agg, ret_tup, ob_some, bb_true, bb_false, List.getElem?_cons_zero, List.getElem?_cons_succ, List.length_cons, List.length_nil, Nat.reduceAdd, Nat.reduceLT]
  have q7 := q6.trans p7
  have x8 := Pre.app M7 [⟨.fx, badL.map (Value.int .i64)⟩]
  have hB : RdI (M7 ++ [⟨.fx, badL.map (Value.int .i64)⟩] : Mem) .i64 (some ⟨M7.length, 0, none⟩) badL := RdI.lit badL
  exact Evp.ret (known_bad M.length _ (q7.trans x8).len f0 f1 f2 ⟨M7.length, 0, none⟩ (g0.rdI.pre x8) (g1.rdI.pre x8) (g2.rdI.pre x8) hB 12 0 _ rfl (by decide) (Pre.refl _))
end Go.Zt
