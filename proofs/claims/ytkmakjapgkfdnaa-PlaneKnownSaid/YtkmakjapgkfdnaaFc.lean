/- Rectangles: Lay. -/
import Derived.Test.YtkmakjapgkfdnaaFb
set_option linter.unusedVariables false
set_option linter.unusedSimpArgs false
set_option maxRecDepth 100000
namespace Go.Zt
theorem clone_ok (lo : Nat) (A : Option Addr) (c : Nat) (xs : List Int) (M : Mem) (hr : RdI M .u8 A xs) (h0 : xs.length ≠ 0) (hn : xs.length ≤ 140737488351232) (hlo : lo ≤ M.length) :
    Ac P T lo F.slices_Clone__uint8_uint8 [.slice A xs.length c] M fun r => ∃ a cc M', r = (.slice (some a) xs.length cc, M') ∧ Pre M M' ∧ xs.length ≤ cc ∧ Buf M M' a (xs.map (Value.int .u8)) := by
  obtain ⟨a0, hA, _⟩ := hr.ld (i := 0) (by omega)
  refine Ac.of (Evp.of_eq (fun k => slices_Clone__uint8_uint8.entry k ..) ?_)
  refine Evp.ff (by rw [hA]; rfl) ?_
  refine Evp.some ((hr.pre (Pre.app _ _)).src) ?_
  have e : (M ++ [⟨.fx, []⟩] : Mem).app lo 1 1 ⟨some ⟨M.length, 0, none⟩, 0, 0⟩ (xs.map (Value.int .u8)) xs.length = some (⟨some ⟨(M ++ [⟨.fx, []⟩] : Mem).length, 0, some (xs.map (Value.int .u8)).length⟩, xs.length, xs.length⟩, (M ++ [⟨.fx, []⟩] : Mem) ++ [⟨.op 1, xs.map (Value.int .u8)⟩]) := by
    unfold Mem.app
    have hroom : room (0 + xs.length) 1 := by show (0 + xs.length) * 1 ≤ 140737488355328; omega
    simp only [h0, if_false]
    rw [if_pos hroom]
    simp
  refine Evp.some e ?_
  refine Evp.ret (Run.ret ⟨_, _, _, rfl, (Pre.app M _).trans (Pre.app _ _), Nat.le_refl _, ?_⟩)
  exact ⟨.op 1, rfl, by simp, by simp, .inr ⟨1, rfl, rfl⟩⟩
section
variable {w h x y rw rh : Nat} {xs bs : List Int} {B : Option Addr} {cb : Nat}
def layS (w : Nat) (xs bs : List Int) (x y rw i : Nat) : List Int := (List.range xs.length).map fun q => if y ≤ q / w ∧ q / w < y + i ∧ x ≤ q % w ∧ q % w < x + rw then bs.getD ((q / w - y) * rw + (q % w - x)) 0 else xs.getD q 0
theorem layS_len (w : Nat) (xs bs : List Int) (x y rw i : Nat) : (layS w xs bs x y rw i).length = xs.length := by simp [layS]
theorem layS_zero (w : Nat) (xs bs : List Int) (x y rw : Nat) : layS w xs bs x y rw 0 = xs := by
  apply ext_getD (layS_len ..)
  intro q hq
  rw [layS_len] at hq
  unfold layS
  rw [getD_map_range hq, if_neg (by omega)]
theorem layS_row {i : Nat} (hn : xs.length = w * h) (hr1 : 1 ≤ rw) (hx : x + rw ≤ w) (hi : y + i < h) (hb : i * rw + rw ≤ bs.length) :
    setL (layS w xs bs x y rw i) ((y + i) * w + x) ((bs.drop (i * rw)).take rw) = layS w xs bs x y rw (i + 1) := by
  have hl : ((bs.drop (i * rw)).take rw).length = rw := by rw [List.length_take, List.length_drop]; omega
  have hin : (y + i) * w + x + rw ≤ xs.length := by
    have : (y + i + 1) * w ≤ h * w := Nat.mul_le_mul_right _ (by omega)
    rw [Nat.succ_mul, Nat.mul_comm h w] at this
    omega
  apply ext_getD
  · rw [setL_len, layS_len, layS_len]
  · intro q hq
    rw [setL_len, layS_len] at hq
    rw [setL_getD _ _ _ _ (by rw [layS_len, hl]; exact hin), hl]
    have hq2 : q < h * w := by rw [Nat.mul_comm]; omega
    obtain ⟨q0, q1, q2, q3⟩ := dm_lt hq2
    by_cases hc : (y + i) * w + x ≤ q ∧ q < (y + i) * w + x + rw
    · obtain ⟨s, hs⟩ : ∃ s, q = (y + i) * w + (x + s) := ⟨q - ((y + i) * w + x), by omega⟩
      obtain ⟨d1, d2⟩ := dm (W := w) (r := y + i) (s := x + s) (by omega)
      rw [if_pos hc, getD_dt (by omega)]
      unfold layS
      rw [getD_map_range hq, hs, d1, d2, if_pos (by omega)]
      congr 1
      rw [show y + i - y = i by omega]; omega
    · rw [if_neg hc]
      unfold layS
      rw [getD_map_range hq, getD_map_range hq]
      have hne : ¬ (q / w = y + i ∧ x ≤ q % w ∧ q % w < x + rw) := fun ⟨e1, e2, e3⟩ => hc (by rw [e1] at q3; omega)
      generalize q / w = qd at *
      generalize q % w = qr at *
      by_cases h3 : y ≤ qd ∧ qd < y + i ∧ x ≤ qr ∧ qr < x + rw
      · rw [if_pos h3, if_pos (by omega)]
      · rw [if_neg h3, if_neg (by omega)]
theorem lay_loop (lo : Nat) (M0 : Mem) (hlo : lo ≤ M0.length) (hr : RdI M0 .u8 B bs) (hcb : bs.length ≤ cb) (hw : w ≤ 512) (hh : h ≤ 512) (hn : xs.length = w * h) (hr1 : 1 ≤ rw) (hx : x + rw ≤ w) (hy : y + rh ≤ h) (hb : bs.length = rw * rh) (a : Addr) (cc : Nat) (hcc : xs.length ≤ cc) (u0 u1 : Int) (u2 : Option Addr) (u3 u4 : Nat) :
    ∀ (d i : Nat) (M : Mem), rh - i = d → i ≤ rh → Pre M0 M → Buf M0 M a ((layS w xs bs x y rw i).map (Value.int .u8)) →
    Run P T lo F.plane_Lay (plane_Lay.c244 B bs.length cb rh i w h (some a) xs.length cc x y rw rh u0 u1 u2 u3 u4 M) fun r => ∃ M', r = (.tuple ⟨[.agg ⟨[.int .i64 w, .int .i64 h, .slice (some a) xs.length cc]⟩, .int .i64 0]⟩, M') ∧ Pre M0 M' ∧ Buf M0 M' a ((layS w xs bs x y rw rh).map (Value.int .u8)) := by
  have hmax : w * h ≤ 512 * 512 := Nat.mul_le_mul hw hh
  intro d
  induction d with
  | zero =>
    intro i M hd hi hp hbuf
    obtain rfl : i = rh := by omega
    refine Run.cut (Evp.of_eq (fun k => plane_Lay.p244 k ..) ?_)
    exact Evp.dec (fun h => absurd h (by omega)) fun _ => Evp.ret (Run.ret ⟨M, rfl, hp, hbuf⟩)
  | succ d ih =>
    intro i M hd hi hp hbuf
    refine Run.cut (Evp.of_eq (fun k => plane_Lay.p244 k ..) ?_)
    refine Evp.dec (fun _ => ?_) fun h => absurd h (by omega)
    have hrow := row_ok (xs := layS w xs bs x y rw i) (A := some a) (c := cc) M.length i M hw hh (by rw [layS_len]; exact hn) (by rw [layS_len]; exact hcc) hr1 hx hy (by omega)
    rw [layS_len] at hrow
    refine Evp.ob hrow ?_
    rintro _ rfl
    simp only [ret_int, ret_bool, ret_flt, ret_slc, ret_str, ret_ptr, ret_agg, ret_tup, ob_some, bb_true, bb_false, List.getElem?_cons_zero, List.getElem?_cons_succ, List.length_cons, List.length_nil, Nat.reduceAdd, Nat.reduceLT]
    have hbi : i * rw + rw ≤ bs.length := by
      have : (i + 1) * rw ≤ rh * rw := Nat.mul_le_mul_right _ (by omega)
      rw [Nat.succ_mul, Nat.mul_comm rh rw] at this
      omega
    have hb2 : rw * rh ≤ 512 * 512 := Nat.mul_le_mul (by omega) (by omega)
    have e0 : (i : Int) * (rw : Int) = ((i * rw : Nat) : Int) := by simp
    rw [e0, w64 (by omega)]
    refine Evp.pos (by omega) ?_
    have hmin : Nat.min (bs.length - (((i * rw : Nat) : Int)).toNat) rw = rw := Nat.min_eq_right (by rw [Int.toNat_natCast]; omega)
    rw [hmin, Int.toNat_natCast]
    refine Evp.some (rd_src (h := i * rw + rw) (hr.pre hp) (by omega) hbi hcb (by omega)) ?_
    refine Evp.neg (by omega) (Evp.some rfl ?_)
    have hin : (y + i) * w + x + rw ≤ xs.length := by
      have : (y + i + 1) * w ≤ h * w := Nat.mul_le_mul_right _ (by omega)
      rw [Nat.succ_mul, Nat.mul_comm h w] at this
      omega
    obtain ⟨M1, g1, g2, g3, g4, g5⟩ := hbuf.st (lo := lo) (i := (y + i) * w + x) (vs := ((bs.drop (i * rw)).take rw).map (Value.int .u8)) hp hlo (by simp [layS_len]; omega)
    refine Evp.some g1 ?_
    rw [setL_ints, layS_row hn hr1 hx (by omega) hbi] at g2
    rw [w64 (by omega)]
    exact Evp.ret (ih (i + 1) M1 (by omega) (by omega) g3 g2)
end
/-- What Lay hands back. -/
def LayR (M : Mem) (w h : Int) (xs bs : List Int) (x y rw rh : Int) (r : Value × Mem) : Prop :=
  Pre M r.2 ∧ if checkS w h xs.length = 0 ∧ WithinP w h x y rw rh ∧ (bs.length : Int) = rw * rh then ∃ a cc, r.1 = .tuple ⟨[.agg ⟨[.int .i64 w, .int .i64 h, .slice (some a) xs.length cc]⟩, .int .i64 0]⟩ ∧ xs.length ≤ cc ∧ Buf M r.2 a ((layS w.toNat xs bs x.toNat y.toNat rw.toNat rh.toNat).map (Value.int .u8))
    else r.1 = .tuple ⟨[.agg ⟨[.int .i64 0, .int .i64 0, .slice none 0 0]⟩, .int .i64 2]⟩
theorem play_ok (lo : Nat) (w h : Int) (A : Option Addr) (c : Nat) (xs : List Int) (x y rw rh : Int) (B : Option Addr) (cb : Nat) (bs : List Int) (M : Mem) (hr : RdI M .u8 A xs) (hb : RdI M .u8 B bs) (hcb : bs.length ≤ cb) (hlo : lo ≤ M.length) :
    Ac P T lo F.plane_Lay [.agg ⟨[.int .i64 w, .int .i64 h, .slice A xs.length c]⟩, .agg ⟨[.int .i64 x, .int .i64 y, .int .i64 rw, .int .i64 rh]⟩, .slice B bs.length cb] M (LayR M w h xs bs x y rw rh) := by
  refine Ac.of (Evp.of_eq (fun k => plane_Lay.entry k ..) ?_)
  refine Evp.ob (within_ok ..) ?_
  rintro _ rfl
  simp only [ret_int, ret_bool, ret_flt, ret_slc, ret_str, ret_ptr, ret_agg, ret_tup, ob_some, bb_true, bb_false, List.getElem?_cons_zero, List.getElem?_cons_succ, List.length_cons, List.length_nil, Nat.reduceAdd, Nat.reduceLT]
  refine Evp.nb (fun h1 => ?_) fun h1 => ?_
  · have := of_decide_eq_false h1
    exact Evp.ret (Run.ret ⟨Pre.refl _, by rw [if_neg fun e => this ⟨e.1, e.2.1⟩]⟩)
  · obtain ⟨hk, hwi⟩ := of_decide_eq_true h1
    have hs := checkS_len' hk
    obtain ⟨h1, h2, h3, h4, h5, h6⟩ := hwi
    have hwi : WithinP w h x y rw rh := ⟨h1, h2, h3, h4, h5, h6⟩
    obtain ⟨w, rfl⟩ := Int.eq_ofNat_of_zero_le (a := w) (by omega)
    obtain ⟨h, rfl⟩ := Int.eq_ofNat_of_zero_le (a := h) (by omega)
    obtain ⟨x, rfl⟩ := Int.eq_ofNat_of_zero_le h3
    obtain ⟨y, rfl⟩ := Int.eq_ofNat_of_zero_le h4
    obtain ⟨rw', rfl⟩ := Int.eq_ofNat_of_zero_le (a := rw) (by omega)
    obtain ⟨rh, rfl⟩ := Int.eq_ofNat_of_zero_le (a := rh) (by omega)
    have hm : rw' * rh ≤ 512 * 512 := Nat.mul_le_mul (by omega) (by omega)
    have e : (rw' : Int) * (rh : Int) = ((rw' * rh : Nat) : Int) := by simp
    have har := area (w := w) (h := h) (by omega)
    have hnn : xs.length = w * h := by have := hs.2.2.2.2; rw [← Int.natCast_mul] at this; omega
    have hnn0 : xs.length ≠ 0 := by have := hs.2.2.2.2; omega
    rw [e, w64 (by omega)]
    refine Evp.neb (fun hne => Evp.ret (Run.ret ⟨Pre.refl _, by rw [if_neg fun e' => hne (by rw [e'.2.2, e])]⟩)) fun he => ?_
    refine Evp.ob (clone_ok lo A c xs M hr hnn0 (by have := hs.2.2.2.2; omega) hlo) ?_
    rintro _ ⟨a, cc, M1, rfl, p1, hcc, hbuf⟩
    simp only [ret_int, ret_bool, ret_flt, ret_slc, ret_str, ret_ptr, ret_agg, ret_tup, ob_some, bb_true, bb_false, List.getElem?_cons_zero, List.getElem?_cons_succ, List.length_cons, List.length_nil, Nat.reduceAdd, Nat.reduceLT]
    have fin := lay_loop (w := w) (h := h) (x := x) (y := y) (rw := rw') (rh := rh) (xs := xs) (bs := bs) (B := B) (cb := cb) lo M hlo hb hcb (by omega) (by omega) hnn (by omega) (by omega) (by omega) (by omega) a cc hcc 0 0 none 0 0 rh 0 M1 rfl (by omega) p1 (by rw [layS_zero]; exact hbuf)
    refine Evp.ret (fin.mono ?_)
    rintro _ ⟨M', rfl, p, g⟩
    refine ⟨p, ?_⟩
    rw [if_pos ⟨hk, hwi, by rw [he, e]⟩]
    exact ⟨a, cc, rfl, hcc, g⟩
end Go.Zt
