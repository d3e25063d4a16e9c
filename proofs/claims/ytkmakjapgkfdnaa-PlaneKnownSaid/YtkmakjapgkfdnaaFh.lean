/- The document's Cut, Lay, Pad. -/
import Derived.Test.YtkmakjapgkfdnaaFg
set_option linter.unusedVariables false
set_option linter.unusedSimpArgs false
set_option maxRecDepth 100000
namespace Go.Zt
section
variable (lo : Nat) (w h : Int) (A : Option Addr) (n c : Nat) (x y rw rh : Int) (M : Mem)
theorem rwithin_ok (h0 : checkS w h n = 0) : Ac P T lo F.zoetroperef05_Within [.agg ⟨[.int .i64 w, .int .i64 h, .slice A n c]⟩, .agg ⟨[.int .i64 x, .int .i64 y, .int .i64 rw, .int .i64 rh]⟩] M fun r => r = (.bool (decide (WithinP w h x y rw rh)), M) := by
  have no : ¬ (WithinP w h x y rw rh) → Run P T lo F.zoetroperef05_Within (.ret (.bool false) M) fun r => r = (.bool (decide (WithinP w h x y rw rh)), M) := fun hn => Run.ret (by rw [decide_eq_false hn])
  have hs := checkS_len' h0
  refine Ac.of (Evp.of_eq (fun k => zoetroperef05_Within.entry k ..) ?_)
  refine Evp.dec (fun h1 => ?_) fun h1 => Evp.ret (no fun e => by unfold WithinP at e; omega)
  refine Evp.dec (fun h2 => ?_) fun h2 => Evp.ret (no fun e => by unfold WithinP at e; omega)
  refine Evp.dec (fun h3 => ?_) fun h3 => Evp.ret (no fun e => by unfold WithinP at e; omega)
  refine Evp.dec (fun h4 => ?_) fun h4 => Evp.ret (no fun e => by unfold WithinP at e; omega)
  refine Evp.dec (fun h5 => ?_) fun h5 => Evp.ret (no fun e => by unfold WithinP at e; omega)
  refine Evp.dec (fun h6 => ?_) fun h6 => Evp.ret (no fun e => by unfold WithinP at e; omega)
  rw [w64 (x := w - rw) (by omega), w64 (x := h - rh) (by omega)]
  refine Evp.dec (fun h7 => ?_) fun h7 => Evp.ret (no fun e => by unfold WithinP at e; omega)
  refine Evp.ret (Run.ret ?_)
  congr 2
  exact decide_eq_decide.2 (by unfold WithinP; omega)
end
theorem cutS_succ (w : Nat) (xs : List Int) (x y rw n : Nat) : cutS w xs x y rw n ++ [xs.getD ((y + n / rw) * w + (x + n % rw)) 0] = cutS w xs x y rw (n + 1) := by
  unfold cutS
  rw [List.range_succ, List.map_append]; rfl
section
variable {w h x y rw rh : Nat} {xs : List Int} {A : Option Addr} {c : Nat} {lo : Nat} {M0 : Mem} {Q : Value × Mem → Prop}
theorem rcut_in (hlo : lo ≤ M0.length) (hr : RdI M0 .u8 A xs) (hw : w ≤ 512) (hh : h ≤ 512) (hn : xs.length = w * h) (hr1 : 1 ≤ rw) (hx : x + rw ≤ w) (hy : y + rh ≤ h) (i : Nat) (hi : i < rh)
    (hnext : ∀ M B cc, Pre M0 M → (i + 1) * rw ≤ cc → Grow M0 M 1 B ((i + 1) * rw) ((cutS w xs x y rw ((i + 1) * rw)).map (Value.int .u8)) → Run P T lo F.zoetroperef05_Cut (zoetroperef05_Cut.c244 B ((i + 1) * rw) cc ((y + i + 1 : Nat) : Int) w h A xs.length c x y rw rh M) Q) :
    ∀ (d j : Nat) (M : Mem) (B : Option Addr) (cc : Nat), rw - j = d → j ≤ rw → Pre M0 M → i * rw + j ≤ cc → Grow M0 M 1 B (i * rw + j) ((cutS w xs x y rw (i * rw + j)).map (Value.int .u8)) →
    Run P T lo F.zoetroperef05_Cut (zoetroperef05_Cut.c15652 B (i * rw + j) cc ((y + i : Nat) : Int) ((x + j : Nat) : Int) w h A xs.length c x y rw rh M) Q := by
  have hmax : w * h ≤ 512 * 512 := Nat.mul_le_mul hw hh
  have hin : (y + i) * w + x + rw ≤ xs.length := by
    have : (y + i + 1) * w ≤ h * w := Nat.mul_le_mul_right _ (by omega)
    rw [Nat.succ_mul, Nat.mul_comm h w] at this
    omega
  have hb1 : i * rw + rw ≤ 512 * 512 := by
    have : (i + 1) * rw ≤ 512 * 512 := Nat.mul_le_mul (by omega) (by omega)
    rwa [Nat.succ_mul] at this
  intro d
  induction d with
  | zero =>
    intro j M B cc hd hj hp hcc hg
    obtain rfl : j = rw := by omega
    refine Run.cut (Evp.of_eq (fun k => zoetroperef05_Cut.p15652 k ..) ?_)
    rw [w64 (x := (x : Int) + j) (by omega)]
    refine Evp.dec (fun h => absurd h (by omega)) fun _ => ?_
    rw [show i * j + j = (i + 1) * j from (Nat.succ_mul _ _).symm] at hg hcc ⊢
    rw [w64 (by omega)]
    exact Evp.ret (hnext M B cc hp hcc hg)
  | succ d ih =>
    intro j M B cc hd hj hp hcc hg
    refine Run.cut (Evp.of_eq (fun k => zoetroperef05_Cut.p15652 k ..) ?_)
    rw [w64 (x := (x : Int) + rw) (by omega)]
    refine Evp.dec (fun _ => ?_) fun h => absurd h (by omega)
    have e0 : ((y + i : Nat) : Int) * (w : Int) = (((y + i) * w : Nat) : Int) := by rw [Int.natCast_mul]
    obtain ⟨d1, d2⟩ := dm (W := rw) (r := i) (s := j) (by omega)
    have hstep := cutS_succ w xs x y rw (i * rw + j)
    rw [d1, d2] at hstep
    rw [e0]
    generalize (y + i) * w = g at *
    rw [w64 (x := (g : Int)) (by omega), w64 (x := (g : Int) + ((x + j : Nat) : Int)) (by omega)]
    refine Evp.pos (by omega) ?_
    rw [show ((g : Int) + ((x + j : Nat) : Int)).toNat = g + (x + j) by omega]
    refine Evp.ldI (hr.pre hp) (by omega) fun _ _ => ?_
    obtain ⟨s, M', h1, h2, h3, h4, _, h5⟩ := hg.app (lo := lo) (bytes := 1) (c := cc) (m := 1) (vs := [.int .u8 (xs.getD (g + (x + j)) 0)]) hp hlo rfl (by omega) (by omega)
    refine Evp.some h1 ?_
    rw [h3, show [Value.int .u8 (xs.getD (g + (x + j)) 0)] = [xs.getD (g + (x + j)) 0].map (Value.int .u8) from rfl, ← List.map_append, hstep] at h2
    rw [h3, w64 (by omega)]
    exact Evp.ret (ih (j + 1) M' s.a s.c (by omega) (by omega) h4 (by rw [← Nat.add_assoc, ← h3]; exact h5 hcc) h2)
theorem rcut_loop (hlo : lo ≤ M0.length) (hr : RdI M0 .u8 A xs) (hw : w ≤ 512) (hh : h ≤ 512) (hn : xs.length = w * h) (hr1 : 1 ≤ rw) (hx : x + rw ≤ w) (hy : y + rh ≤ h) :
    ∀ (d i : Nat) (M : Mem) (B : Option Addr) (cc : Nat), rh - i = d → i ≤ rh → Pre M0 M → i * rw ≤ cc → Grow M0 M 1 B (i * rw) ((cutS w xs x y rw (i * rw)).map (Value.int .u8)) →
    Run P T lo F.zoetroperef05_Cut (zoetroperef05_Cut.c244 B (i * rw) cc ((y + i : Nat) : Int) w h A xs.length c x y rw rh M) fun r => ∃ B' cc' M', r = (.tuple ⟨[.slice B' (cutS w xs x y rw (rh * rw)).length cc', .int .i64 0]⟩, M') ∧ Pre M0 M' ∧ Grow M0 M' 1 B' (cutS w xs x y rw (rh * rw)).length ((cutS w xs x y rw (rh * rw)).map (Value.int .u8)) ∧ (cutS w xs x y rw (rh * rw)).length ≤ cc' := by
  intro d
  induction d with
  | zero =>
    intro i M B cc hd hi hp hcc hg
    obtain rfl : i = rh := by omega
    refine Run.cut (Evp.of_eq (fun k => zoetroperef05_Cut.p244 k ..) ?_)
    rw [w64 (x := (y : Int) + i) (by omega)]
    refine Evp.dec (fun h => absurd h (by omega)) fun _ => Evp.ret (Run.ret ⟨B, cc, M, ?_, hp, ?_, ?_⟩)
    · rw [cutS_len]
    · rw [cutS_len]; exact hg
    · rw [cutS_len]; exact hcc
  | succ d ih =>
    intro i M B cc hd hi hp hcc hg
    refine Run.cut (Evp.of_eq (fun k => zoetroperef05_Cut.p244 k ..) ?_)
    rw [w64 (x := (y : Int) + rh) (by omega)]
    refine Evp.dec (fun _ => ?_) fun h => absurd h (by omega)
    exact Evp.ret (rcut_in hlo hr hw hh hn hr1 hx hy i (by omega) (fun M B cc hp hcc hg => ih (i + 1) M B cc (by omega) (by omega) hp hcc hg) rw 0 M B cc rfl (by omega) hp hcc hg)
end
theorem rcut_ok (lo : Nat) (w h : Int) (A : Option Addr) (c : Nat) (xs : List Int) (x y rw rh : Int) (M : Mem) (hr : RdI M .u8 A xs) (hlo : lo ≤ M.length) :
    Ac P T lo F.zoetroperef05_Cut [.agg ⟨[.int .i64 w, .int .i64 h, .slice A xs.length c]⟩, .agg ⟨[.int .i64 x, .int .i64 y, .int .i64 rw, .int .i64 rh]⟩] M (CutR M w h xs x y rw rh) := by
  have bad : ¬ (checkS w h xs.length = 0 ∧ WithinP w h x y rw rh) → Run P T lo F.zoetroperef05_Cut (.ret (.tuple ⟨[.slice none 0 0, .int .i64 2]⟩) M) (CutR M w h xs x y rw rh) := fun h => Run.ret ⟨Pre.refl _, by rw [if_neg h]⟩
  refine Ac.of (Evp.of_eq (fun k => zoetroperef05_Cut.entry k ..) ?_)
  refine Evp.ob (rcheck_ok ..) ?_
  rintro _ rfl
  simp only [ret_int, ret_bool, ret_flt, ret_slc, ret_str, ret_ptr, ret_agg, ret_tup, ob_some, bb_true, bb_false, List.getElem?_cons_zero, List.getElem?_cons_succ, List.length_cons, List.length_nil, Nat.reduceAdd, Nat.reduceLT]
  refine Evp.neb (fun h => Evp.ret (bad fun e => h e.1)) fun hk => ?_
  refine Evp.ob (rwithin_ok _ _ _ _ _ _ _ _ _ _ _ hk) ?_
  rintro _ rfl
  simp only [ret_int, ret_bool, ret_flt, ret_slc, ret_str, ret_ptr, ret_agg, ret_tup, ob_some, bb_true, bb_false, List.getElem?_cons_zero, List.getElem?_cons_succ, List.length_cons, List.length_nil, Nat.reduceAdd, Nat.reduceLT]
  refine Evp.nb (fun h1 => Evp.ret (bad fun e => of_decide_eq_false h1 e.2)) fun h1 => ?_
  have hwi := of_decide_eq_true h1
  have hs := checkS_len' hk
  obtain ⟨h1, h2, h3, h4, h5, h6⟩ := hwi
  have hwi : WithinP w h x y rw rh := ⟨h1, h2, h3, h4, h5, h6⟩
  obtain ⟨w, rfl⟩ := Int.eq_ofNat_of_zero_le (a := w) (by omega)
  obtain ⟨h, rfl⟩ := Int.eq_ofNat_of_zero_le (a := h) (by omega)
  obtain ⟨x, rfl⟩ := Int.eq_ofNat_of_zero_le h3
  obtain ⟨y, rfl⟩ := Int.eq_ofNat_of_zero_le h4
  obtain ⟨rw', rfl⟩ := Int.eq_ofNat_of_zero_le (a := rw) (by omega)
  obtain ⟨rh, rfl⟩ := Int.eq_ofNat_of_zero_le (a := rh) (by omega)
  have hnn : xs.length = w * h := by have := hs.2.2.2.2; rw [← Int.natCast_mul] at this; omega
  have fin := rcut_loop (w := w) (h := h) (x := x) (y := y) (rw := rw') (rh := rh) (xs := xs) (A := A) (c := c) (lo := lo) (M0 := M) hlo hr (by omega) (by omega) hnn (by omega) (by omega) (by omega) rh 0 M none 0 rfl (by omega) (Pre.refl _) (by rw [Nat.zero_mul]; exact Nat.le_refl _) (by rw [Nat.zero_mul]; exact Grow.nil)
  rw [Nat.zero_mul] at fin
  refine Evp.ret (fin.mono ?_)
  rintro _ ⟨B, cc, M', rfl, p, g, gc⟩
  refine ⟨p, ?_⟩
  rw [if_pos ⟨hk, hwi⟩]
  exact ⟨B, cc, rfl, g, gc⟩
/-! ### Lay -/
section
variable {w h x y rw rh : Nat} {xs bs : List Int} {B : Option Addr} {cb : Nat}
def layE (w : Nat) (xs bs : List Int) (x y rw rh i : Nat) : List Int := (List.range xs.length).map fun q => if (y ≤ q / w ∧ q / w < y + rh ∧ x ≤ q % w ∧ q % w < x + rw) ∧ (q / w - y) * rw + (q % w - x) < i then bs.getD ((q / w - y) * rw + (q % w - x)) 0 else xs.getD q 0
theorem layE_len (w : Nat) (xs bs : List Int) (x y rw rh i : Nat) : (layE w xs bs x y rw rh i).length = xs.length := by simp [layE]
theorem layE_zero (w : Nat) (xs bs : List Int) (x y rw rh : Nat) : layE w xs bs x y rw rh 0 = xs := by
  apply ext_getD (layE_len ..)
  intro q hq
  rw [layE_len] at hq
  unfold layE
  rw [getD_map_range hq, if_neg (fun e => absurd e.2 (Nat.not_lt_zero _))]
theorem layE_full (hn : xs.length = w * h) : layE w xs bs x y rw rh (rh * rw) = layS w xs bs x y rw rh := by
  apply ext_getD (by rw [layE_len, layS_len])
  intro q hq
  rw [layE_len] at hq
  unfold layE layS
  rw [getD_map_range hq, getD_map_range hq]
  by_cases h1 : y ≤ q / w ∧ q / w < y + rh ∧ x ≤ q % w ∧ q % w < x + rw
  · have := dm_in (W := rw) (h := rh) (r := q / w - y) (s := q % w - x) (by generalize q / w = u at *; omega) (by generalize q % w = u at *; omega)
    rw [if_pos ⟨h1, this⟩, if_pos h1]
  · rw [if_neg (fun e => h1 e.1), if_neg h1]
theorem layE_set (hn : xs.length = w * h) (hr1 : 1 ≤ rw) (hx : x + rw ≤ w) (hy : y + rh ≤ h) (i : Nat) (hi : i < rh * rw) :
    (layE w xs bs x y rw rh i).set ((y + i / rw) * w + (x + i % rw)) (bs.getD i 0) = layE w xs bs x y rw rh (i + 1) := by
  obtain ⟨i0, i1, i2, i3⟩ := dm_lt hi
  have hin : (y + i / rw) * w + (x + i % rw) < xs.length := by
    rw [hn, Nat.mul_comm w h]
    exact dm_in (by generalize i / rw = u at *; omega) (by generalize i % rw = u at *; omega)
  obtain ⟨d1, d2⟩ := dm (W := w) (r := y + i / rw) (s := x + i % rw) (by generalize i % rw = u at *; omega)
  apply ext_getD (by rw [List.length_set, layE_len, layE_len])
  intro q hq
  rw [List.length_set, layE_len] at hq
  rw [getD_set (by rw [layE_len]; exact hin)]
  have hq2 : q < h * w := by rw [Nat.mul_comm]; omega
  obtain ⟨q0, q1, q2, q3⟩ := dm_lt hq2
  unfold layE
  rw [getD_map_range hq, getD_map_range hq]
  by_cases e : q = (y + i / rw) * w + (x + i % rw)
  · subst e
    rw [if_pos rfl, d1, d2, Nat.add_sub_cancel_left, Nat.add_sub_cancel_left, ← i3, if_pos ⟨by generalize i / rw = u at *; generalize i % rw = v at *; omega, by omega⟩]
  · rw [if_neg e]
    have hne : (y ≤ q / w ∧ q / w < y + rh ∧ x ≤ q % w ∧ q % w < x + rw) → (q / w - y) * rw + (q % w - x) ≠ i := fun h1 h2 => e (by
      have h3 : q % w - x < rw := by generalize q % w = u at *; omega
      obtain ⟨g1, g2⟩ := dm (W := rw) (r := q / w - y) (s := q % w - x) h3
      rw [h2] at g1 g2
      rw [g1, g2]
      rw [Nat.add_sub_cancel' h1.1, Nat.add_sub_cancel' h1.2.2.1]
      exact q3)
    by_cases h1 : y ≤ q / w ∧ q / w < y + rh ∧ x ≤ q % w ∧ q % w < x + rw
    · have := hne h1
      generalize (q / w - y) * rw + (q % w - x) = t at *
      by_cases h2 : t < i
      · rw [if_pos ⟨h1, h2⟩, if_pos ⟨h1, by omega⟩]
      · rw [if_neg (fun e => h2 e.2), if_neg (fun e => by have := e.2; omega)]
    · rw [if_neg (fun e => h1 e.1), if_neg (fun e => h1 e.1)]
theorem rlay_loop (lo : Nat) (M0 : Mem) (hlo : lo ≤ M0.length) (hr : RdI M0 .u8 B bs) (hw : w ≤ 512) (hh : h ≤ 512) (hn : xs.length = w * h) (hr1 : 1 ≤ rw) (hx : x + rw ≤ w) (hy : y + rh ≤ h) (hb : bs.length = rh * rw) (a : Addr) (cc : Nat) (A : Option Addr) (c : Nat) (u0 u1 : Int) (u2 : Option Addr) (u3 u4 : Nat) :
    ∀ (d i : Nat) (M : Mem), bs.length - i = d → i ≤ bs.length → Pre M0 M → Buf M0 M a ((layE w xs bs x y rw rh i).map (Value.int .u8)) →
    Run P T lo F.zoetroperef05_Lay (zoetroperef05_Lay.c244 B bs.length cb i w h A xs.length c x y rw rh u0 u1 u2 u3 u4 w h (some a) xs.length cc M) fun r => ∃ M', r = (.tuple ⟨[.agg ⟨[.int .i64 w, .int .i64 h, .slice (some a) xs.length cc]⟩, .int .i64 0]⟩, M') ∧ Pre M0 M' ∧ Buf M0 M' a ((layS w xs bs x y rw rh).map (Value.int .u8)) := by
  have hmax : w * h ≤ 512 * 512 := Nat.mul_le_mul hw hh
  have hbl : bs.length ≤ 512 * 512 := by rw [hb]; exact Nat.mul_le_mul (by omega) (by omega)
  intro d
  induction d with
  | zero =>
    intro i M hd hi hp hbuf
    obtain rfl : i = bs.length := by omega
    refine Run.cut (Evp.of_eq (fun k => zoetroperef05_Lay.p244 k ..) ?_)
    rw [hb, layE_full hn] at hbuf
    exact Evp.dec (fun h => absurd h (by omega)) fun _ => Evp.ret (Run.ret ⟨M, rfl, hp, hbuf⟩)
  | succ d ih =>
    intro i M hd hi hp hbuf
    refine Run.cut (Evp.of_eq (fun k => zoetroperef05_Lay.p244 k ..) ?_)
    refine Evp.dec (fun _ => ?_) fun h => absurd h (by omega)
    refine Evp.neg (by omega) (Evp.neg (by omega) ?_)
    refine Evp.pos (by omega) ?_
    simp only [Int.toNat_natCast]
    refine Evp.ldI (hr.pre hp) (by omega) fun _ _ => ?_
    have hil : i < rh * rw := by omega
    obtain ⟨i0, i1, i2, i3⟩ := dm_lt hil
    have hset := layE_set (bs := bs) hn hr1 hx hy i hil
    have hin : (y + i / rw) * w + (x + i % rw) < w * h := by
      rw [Nat.mul_comm w h]
      exact dm_in (by generalize i / rw = u at *; omega) (by generalize i % rw = u at *; omega)
    have e1 : Int.tdiv (i : Int) ((rw : Nat) : Int) = ((i / rw : Nat) : Int) := rfl
    have e2 : Int.tmod (i : Int) ((rw : Nat) : Int) = ((i % rw : Nat) : Int) := rfl
    rw [e1, e2]
    generalize i / rw = u at *
    generalize i % rw = v at *
    have e3 : ((y : Int) + u) * (w : Int) = (((y + u) * w : Nat) : Int) := by simp
    rw [w64 (x := (u : Int)) (by omega), w64 (x := (y : Int) + u) (by omega), e3]
    generalize (y + u) * w = g at *
    rw [w64 (x := (g : Int)) (by omega), w64 (x := (g : Int) + x) (by omega), w64 (x := (g : Int) + x + v) (by omega)]
    refine Evp.pos (by omega) (Evp.some rfl ?_)
    rw [show ((g : Int) + x + v).toNat = g + (x + v) by omega]
    obtain ⟨M1, g1, g2, g3, g4, g5⟩ := hbuf.st (lo := lo) (i := g + (x + v)) (vs := [.int .u8 (bs.getD i 0)]) hp hlo (by simp [layE_len]; omega)
    refine Evp.some g1 ?_
    rw [setL_one, set_map, hset] at g2
    rw [w64 (by omega)]
    exact Evp.ret (ih (i + 1) M1 (by omega) (by omega) g3 g2)
end
theorem rlay_ok (lo : Nat) (w h : Int) (A : Option Addr) (c : Nat) (xs : List Int) (x y rw rh : Int) (B : Option Addr) (cb : Nat) (bs : List Int) (M : Mem) (hr : RdI M .u8 A xs) (hb : RdI M .u8 B bs) (hlo : lo ≤ M.length) :
    Ac P T lo F.zoetroperef05_Lay [.agg ⟨[.int .i64 w, .int .i64 h, .slice A xs.length c]⟩, .agg ⟨[.int .i64 x, .int .i64 y, .int .i64 rw, .int .i64 rh]⟩, .slice B bs.length cb] M (LayR M w h xs bs x y rw rh) := by
  have bad : ¬ (checkS w h xs.length = 0 ∧ WithinP w h x y rw rh ∧ (bs.length : Int) = rw * rh) → Run P T lo F.zoetroperef05_Lay (.ret (.tuple ⟨[.agg ⟨[.int .i64 0, .int .i64 0, .slice none 0 0]⟩, .int .i64 2]⟩) M) (LayR M w h xs bs x y rw rh) := fun h => Run.ret ⟨Pre.refl _, by rw [if_neg h]⟩
  refine Ac.of (Evp.of_eq (fun k => zoetroperef05_Lay.entry k ..) ?_)
  refine Evp.ob (rcheck_ok ..) ?_
  rintro _ rfl
  simp only [ret_int, ret_bool, ret_flt, ret_slc, ret_str, ret_ptr, ret_agg, ret_tup, ob_some, bb_true, bb_false, List.getElem?_cons_zero, List.getElem?_cons_succ, List.length_cons, List.length_nil, Nat.reduceAdd, Nat.reduceLT]
  refine Evp.neb (fun h => Evp.ret (bad fun e => h e.1)) fun hk => ?_
  refine Evp.ob (rwithin_ok _ _ _ _ _ _ _ _ _ _ _ hk) ?_
  rintro _ rfl
  simp only [ret_int, ret_bool, ret_flt, ret_slc, ret_str, ret_ptr, ret_agg, ret_tup, ob_some, bb_true, bb_false, List.getElem?_cons_zero, List.getElem?_cons_succ, List.length_cons, List.length_nil, Nat.reduceAdd, Nat.reduceLT]
  refine Evp.nb (fun h1 => Evp.ret (bad fun e => of_decide_eq_false h1 e.2.1)) fun h1 => ?_
  have hwi := of_decide_eq_true h1
  have hs := checkS_len' hk
  obtain ⟨h1, h2, h3, h4, h5, h6⟩ := hwi
  have hwi : WithinP w h x y rw rh := ⟨h1, h2, h3, h4, h5, h6⟩
  obtain ⟨w, rfl⟩ := Int.eq_ofNat_of_zero_le (a := w) (by omega)
  obtain ⟨h, rfl⟩ := Int.eq_ofNat_of_zero_le (a := h) (by omega)
  obtain ⟨x, rfl⟩ := Int.eq_ofNat_of_zero_le h3
  obtain ⟨y, rfl⟩ := Int.eq_ofNat_of_zero_le h4
  obtain ⟨rw', rfl⟩ := Int.eq_ofNat_of_zero_le (a := rw) (by omega)
  obtain ⟨rh, rfl⟩ := Int.eq_ofNat_of_zero_le (a := rh) (by omega)
  have hm : rh * rw' ≤ 512 * 512 := Nat.mul_le_mul (by omega) (by omega)
  have e : (rw' : Int) * (rh : Int) = ((rh * rw' : Nat) : Int) := by rw [Int.natCast_mul, Int.mul_comm]
  have har := area (w := w) (h := h) (by omega)
  have hnn : xs.length = w * h := by have := hs.2.2.2.2; rw [← Int.natCast_mul] at this; omega
  have hnn0 : xs.length ≠ 0 := by have := hs.2.2.2.2; omega
  have bad2 : ¬ ((bs.length : Int) = (rw' : Int) * (rh : Int)) → _ := fun hne => bad fun e => hne e.2.2
  rw [e] at bad2 ⊢
  rw [w64 (by omega)]
  refine Evp.neb (fun hne => Evp.ret (bad2 hne)) fun he => ?_
  refine Evp.ob (copyBytes_ok M.length A c xs M hr (by have := hs.2.2.2.2; omega) (Nat.le_refl _)) ?_
  rintro _ ⟨A', cc, M1, rfl, p1, hcc, g1⟩
  simp only [ret_int, ret_bool, ret_flt, ret_slc, ret_str, ret_ptr, ret_agg, ret_tup, ob_some, bb_true, bb_false, List.getElem?_cons_zero, List.getElem?_cons_succ, List.length_cons, List.length_nil, Nat.reduceAdd, Nat.reduceLT]
  obtain ⟨a, rfl, hbuf⟩ := g1.buf hnn0
  have fin := rlay_loop (w := w) (h := h) (x := x) (y := y) (rw := rw') (rh := rh) (xs := xs) (bs := bs) (B := B) (cb := cb) lo M hlo hb (by omega) (by omega) hnn (by omega) (by omega) (by omega) (by omega) a cc A c 0 0 none 0 0 bs.length 0 M1 rfl (by omega) p1 (by rw [layE_zero]; exact hbuf)
  refine Evp.ret (fin.mono ?_)
  rintro _ ⟨M', rfl, p, g⟩
  refine ⟨p, ?_⟩
  rw [if_pos ⟨hk, hwi, by rw [he, e]⟩]
  exact ⟨a, cc, rfl, hcc, g⟩
/-! ### sized, Pad -/
def fillG (f : Nat → Int) (n i : Nat) : List Int := (List.range n).map fun q => if q < i then f q else 0
theorem fillG_len (f : Nat → Int) (n i : Nat) : (fillG f n i).length = n := by simp [fillG]
theorem fillG_set (f : Nat → Int) (n i : Nat) (hi : i < n) : (fillG f n i).set i (f i) = fillG f n (i + 1) := by
  apply ext_getD (by rw [List.length_set, fillG_len, fillG_len])
  intro q hq
  rw [List.length_set, fillG_len] at hq
  rw [getD_set (by rw [fillG_len]; exact hi)]
  unfold fillG
  rw [getD_map_range hq, getD_map_range hq]
  by_cases e : q = i
  · subst e; rw [if_pos rfl, if_pos (by omega)]
  · rw [if_neg e]
    by_cases h : q < i
    · rw [if_pos h, if_pos (by omega)]
    · rw [if_neg h, if_neg (by omega)]
theorem fillG_zero (f : Nat → Int) (n : Nat) : (fillG f n 0).map (Value.int .u8) = zerosL [.int .u8 0] n := by
  rw [zerosL_one]; simp [fillG, List.map_const']
theorem fillG_full (f : Nat → Int) (n : Nat) : fillG f n n = (List.range n).map f := by
  apply ext_getD (by simp [fillG])
  intro q hq
  rw [fillG_len] at hq
  unfold fillG
  rw [getD_map_range hq, getD_map_range hq, if_pos hq]
theorem rsized_loop (lo : Nat) (w h : Int) (W H : Nat) (A : Option Addr) (c : Nat) (xs : List Int) (M0 : Mem) (a : Addr) (u0 u1 : Int) (u2 : Option Addr) (u3 u4 : Nat) (hlo : lo ≤ M0.length) (hr : RdI M0 .u8 A xs) (hk : checkS w h xs.length = 0) (hW : 1 ≤ W ∧ W ≤ 512) (hH : 1 ≤ H ∧ H ≤ 512) :
    ∀ (d i : Nat) (M : Mem), H * W - i = d → i ≤ H * W → Pre M0 M → Buf M0 M a ((fillG (fun q => pixS w h xs (q / W : Nat) (q % W : Nat)) (H * W) i).map (Value.int .u8)) →
    Run P T lo F.zoetroperef05_sized (zoetroperef05_sized.c116 W H i w h A xs.length c u0 u1 u2 u3 u4 W H (some a) (H * W) (H * W) M) fun r => ∃ a M', r = (.agg ⟨[.int .i64 W, .int .i64 H, .slice (some a) (H * W) (H * W)]⟩, M') ∧ Pre M0 M' ∧ Buf M0 M' a ((sizedS w h xs W (H * W)).map (Value.int .u8)) := by
  have hmax2 : H * W ≤ 512 * 512 := Nat.mul_le_mul hH.2 hW.2
  have e : (W : Int) * (H : Int) = ((H * W : Nat) : Int) := by rw [Int.natCast_mul, Int.mul_comm]
  intro d
  induction d with
  | zero =>
    intro i M hd hi hp hb
    obtain rfl : i = H * W := by omega
    refine Run.cut (Evp.of_eq (fun k => zoetroperef05_sized.p116 k ..) ?_)
    rw [e, w64 (x := ((H * W : Nat) : Int)) (by omega)]
    refine Evp.dec (fun h => absurd h (by omega)) fun _ => ?_
    rw [fillG_full] at hb
    exact Evp.ret (Run.ret ⟨a, M, rfl, hp, hb⟩)
  | succ d ih =>
    intro i M hd hi hp hb
    refine Run.cut (Evp.of_eq (fun k => zoetroperef05_sized.p116 k ..) ?_)
    rw [e, w64 (x := ((H * W : Nat) : Int)) (by omega)]
    refine Evp.dec (fun _ => ?_) fun h => absurd h (by omega)
    refine Evp.neg (by omega) (Evp.neg (by omega) ?_)
    have e1 : Int.tdiv (i : Int) ((W : Nat) : Int) = ((i / W : Nat) : Int) := rfl
    have e2 : Int.tmod (i : Int) ((W : Nat) : Int) = ((i % W : Nat) : Int) := rfl
    have hset := fillG_set (fun q => pixS w h xs (q / W : Nat) (q % W : Nat)) (H * W) i (by omega)
    have hle : i / W ≤ i := Nat.div_le_self _ _
    rw [e1, e2]
    generalize i / W = u at *
    rw [w64 (x := (u : Int)) (by omega)]
    refine Evp.ob (rat_ok _ _ _ _ _ _ _ _ _ (hr.pre hp)) ?_
    rintro _ rfl
    simp only [ret_int, ret_bool, ret_flt, ret_slc, ret_str, ret_ptr, ret_agg, ret_tup, ob_some, bb_true, bb_false, List.getElem?_cons_zero, List.getElem?_cons_succ, List.length_cons, List.length_nil, Nat.reduceAdd, Nat.reduceLT]
    refine Evp.pos (by omega) (Evp.some rfl ?_)
    unfold atS
    rw [if_pos hk, Int.toNat_natCast]
    obtain ⟨M1, g1, g2, g3, g4, g5⟩ := hb.st (lo := lo) (i := i) (vs := [.int .u8 (pixS w h xs (u : Nat) (i % W : Nat))]) hp hlo (by simp [fillG_len]; omega)
    refine Evp.some g1 ?_
    rw [setL_one, set_map, hset] at g2
    rw [w64 (by omega)]
    exact Evp.ret (ih (i + 1) M1 (by omega) (by omega) g3 g2)
theorem rsized_ok (lo : Nat) (w h : Int) (W H : Nat) (A : Option Addr) (c : Nat) (xs : List Int) (M : Mem) (hlo : lo ≤ M.length) (hr : RdI M .u8 A xs) (hk : checkS w h xs.length = 0) (hW : 1 ≤ W ∧ W ≤ 512) (hH : 1 ≤ H ∧ H ≤ 512) :
    Ac P T lo F.zoetroperef05_sized [.agg ⟨[.int .i64 w, .int .i64 h, .slice A xs.length c]⟩, .int .i64 W, .int .i64 H] M fun r => ∃ a M', r = (.agg ⟨[.int .i64 W, .int .i64 H, .slice (some a) (H * W) (H * W)]⟩, M') ∧ Pre M M' ∧ Buf M M' a ((sizedS w h xs W (H * W)).map (Value.int .u8)) := by
  have hmax2 : H * W ≤ 512 * 512 := Nat.mul_le_mul hH.2 hW.2
  have e : (W : Int) * (H : Int) = ((H * W : Nat) : Int) := by rw [Int.natCast_mul, Int.mul_comm]
  refine Ac.of (Evp.of_eq (fun k => zoetroperef05_sized.entry k ..) ?_)
  rw [e, w64 (by omega)]
  refine Evp.pos ⟨by omega, by show ((H * W : Nat) : Int).toNat * 1 ≤ 140737488355328; omega⟩ ?_
  simp only [Int.toNat_natCast]
  refine Evp.ret (rsized_loop lo w h W H A c xs M ⟨M.length, 0, none⟩ 0 0 none 0 0 hlo hr hk hW hH _ 0 _ rfl (by omega) (Pre.app _ _) ?_)
  rw [fillG_zero]; exact Buf.push (Pre.refl M)
theorem rpad_ok (lo : Nat) (w h W H : Int) (A : Option Addr) (c : Nat) (xs : List Int) (M : Mem) (hlo : lo ≤ M.length) (hr : RdI M .u8 A xs) :
    Ac P T lo F.zoetroperef05_Pad [.agg ⟨[.int .i64 w, .int .i64 h, .slice A xs.length c]⟩, .int .i64 W, .int .i64 H] M (PadR M w h xs W H) := by
  have bad : ¬ (checkS w h xs.length = 0 ∧ w ≤ W ∧ W ≤ 512 ∧ h ≤ H ∧ H ≤ 512) → Run P T lo F.zoetroperef05_Pad (.ret (.tuple ⟨[.agg ⟨[.int .i64 0, .int .i64 0, .slice none 0 0]⟩, .int .i64 2]⟩) M) (PadR M w h xs W H) := fun hn => Run.ret ⟨Pre.refl _, by rw [if_neg hn]⟩
  refine Ac.of (Evp.of_eq (fun k => zoetroperef05_Pad.entry k ..) ?_)
  refine Evp.ob (rcheck_ok ..) ?_
  rintro _ rfl
  simp only [ret_int, ret_bool, ret_flt, ret_slc, ret_str, ret_ptr, ret_agg, ret_tup, ob_some, bb_true, bb_false, List.getElem?_cons_zero, List.getElem?_cons_succ, List.length_cons, List.length_nil, Nat.reduceAdd, Nat.reduceLT]
  refine Evp.neb (fun h1 => Evp.ret (bad fun e => h1 e.1)) fun h1 => ?_
  have hs := checkS_len' h1
  refine Evp.dec (fun h3 => Evp.ret (bad fun e => by omega)) fun h3 => ?_
  refine Evp.dec (fun h4 => Evp.ret (bad fun e => by omega)) fun h4 => ?_
  refine Evp.dec (fun h5 => Evp.ret (bad fun e => by omega)) fun h5 => ?_
  refine Evp.dec (fun h6 => Evp.ret (bad fun e => by omega)) fun h6 => ?_
  obtain ⟨W, rfl⟩ := Int.eq_ofNat_of_zero_le (a := W) (by omega)
  obtain ⟨H, rfl⟩ := Int.eq_ofNat_of_zero_le (a := H) (by omega)
  refine Evp.ob (rsized_ok lo w h W H A c xs M hlo hr h1 (by omega) (by omega)) ?_
  rintro _ ⟨a, M', rfl, hp, hb⟩
  simp only [ret_int, ret_bool, ret_flt, ret_slc, ret_str, ret_ptr, ret_agg, ret_tup, ob_some, bb_true, bb_false, List.getElem?_cons_zero, List.getElem?_cons_succ, List.length_cons, List.length_nil, Nat.reduceAdd, Nat.reduceLT]
  refine Evp.ret (Run.ret ⟨hp, ?_⟩)
  rw [if_pos ⟨h1, by omega, by omega, by omega, by omega⟩]
  exact ⟨a, rfl, hb⟩
end Go.Zt
