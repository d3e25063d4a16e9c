/- Rectangles: Cut. -/
import Derived.Test.YtkmakjapgkfdnaaFa
set_option linter.unusedVariables false
set_option linter.unusedSimpArgs false
set_option maxRecDepth 100000
namespace Go.Zt
theorem getD_app1 {xs ys : List Int} {i : Nat} (h : i < xs.length) : (xs ++ ys).getD i 0 = xs.getD i 0 := by
  simp only [List.getD_eq_getElem?_getD, List.getElem?_append_left h]
theorem getD_app2 {xs ys : List Int} {i : Nat} (h : xs.length ≤ i) : (xs ++ ys).getD i 0 = ys.getD (i - xs.length) 0 := by
  simp only [List.getD_eq_getElem?_getD, List.getElem?_append_right h]
def WithinP (w h x y rw rh : Int) : Prop := 1 ≤ rw ∧ 1 ≤ rh ∧ 0 ≤ x ∧ 0 ≤ y ∧ x + rw ≤ w ∧ y + rh ≤ h
instance (w h x y rw rh : Int) : Decidable (WithinP w h x y rw rh) := inferInstanceAs (Decidable (_ ∧ _))
section
variable (lo : Nat) (w h : Int) (A : Option Addr) (n c : Nat) (x y rw rh : Int) (M : Mem)
theorem within_ok : Ac P T lo F.plane_within [.agg ⟨[.int .i64 w, .int .i64 h, .slice A n c]⟩, .agg ⟨[.int .i64 x, .int .i64 y, .int .i64 rw, .int .i64 rh]⟩] M fun r => r = (.bool (decide (checkS w h n = 0 ∧ WithinP w h x y rw rh)), M) := by
  have no : ¬ (checkS w h n = 0 ∧ WithinP w h x y rw rh) → Run P T lo F.plane_within (.ret (.bool false) M) fun r => r = (.bool (decide (checkS w h n = 0 ∧ WithinP w h x y rw rh)), M) := fun hn => Run.ret (by rw [decide_eq_false hn])
  refine Ac.of (Evp.of_eq (fun k => plane_within.entry k ..) ?_)
  refine Evp.ob (check_ok ..) ?_
  rintro _ rfl
  simp only [ret_int, ret_bool, ret_flt, ret_slc, ret_str, ret_ptr, ret_agg, ret_tup, ob_some, bb_true, bb_false, List.getElem?_cons_zero, List.getElem?_cons_succ, List.length_cons, List.length_nil, Nat.reduceAdd, Nat.reduceLT]
  refine Evp.eqb (fun h0 => ?_) fun h0 => Evp.ret (no fun e => h0 e.1)
  have hs := checkS_len' h0
  refine Evp.dec (fun h1 => ?_) fun h1 => Evp.ret (no fun e => by have := e.2; unfold WithinP at this; omega)
  refine Evp.dec (fun h2 => ?_) fun h2 => Evp.ret (no fun e => by have := e.2; unfold WithinP at this; omega)
  refine Evp.dec (fun h3 => ?_) fun h3 => Evp.ret (no fun e => by have := e.2; unfold WithinP at this; omega)
  refine Evp.dec (fun h4 => ?_) fun h4 => Evp.ret (no fun e => by have := e.2; unfold WithinP at this; omega)
  refine Evp.dec (fun h5 => ?_) fun h5 => Evp.ret (no fun e => by have := e.2; unfold WithinP at this; omega)
  refine Evp.dec (fun h6 => ?_) fun h6 => Evp.ret (no fun e => by have := e.2; unfold WithinP at this; omega)
  rw [w64 (x := w - rw) (by omega), w64 (x := h - rh) (by omega)]
  refine Evp.dec (fun h7 => ?_) fun h7 => Evp.ret (no fun e => by have := e.2; unfold WithinP at this; omega)
  refine Evp.ret (Run.ret ?_)
  congr 2
  exact decide_eq_decide.2 (by unfold WithinP; omega)
end
section
variable {w h x y rw rh : Nat} {xs : List Int} {A : Option Addr} {c : Nat}
theorem row_ok (lo i : Nat) (M : Mem) (hw : w ≤ 512) (hh : h ≤ 512) (hn : xs.length = w * h) (hc : xs.length ≤ c) (hr1 : 1 ≤ rw) (hx : x + rw ≤ w) (hy : y + rh ≤ h) (hi : i < rh) :
    Ac P T lo F.plane_row [.agg ⟨[.int .i64 w, .int .i64 h, .slice A xs.length c]⟩, .agg ⟨[.int .i64 x, .int .i64 y, .int .i64 rw, .int .i64 rh]⟩, .int .i64 i] M fun r => r = (.slice (A.map fun a => plus a ((y + i) * w + x)) rw rw, M) := by
  refine Ac.of (Evp.of_eq (fun k => plane_row.entry k ..) ?_)
  have hin : (y + i) * w + x + rw ≤ w * h := by
    have : (y + i + 1) * w ≤ h * w := Nat.mul_le_mul_right _ (by omega)
    rw [Nat.succ_mul, Nat.mul_comm h w] at this
    omega
  have hmax : w * h ≤ 512 * 512 := Nat.mul_le_mul hw hh
  have e0 : ((y : Int) + i) * w = (((y + i) * w : Nat) : Int) := by simp
  rw [w64 (x := (y : Int) + i) (by omega), e0]
  generalize hg : (y + i) * w = g at *
  rw [w64 (x := (g : Int)) (by omega), w64 (x := (g : Int) + x) (by omega), w64 (x := (g : Int) + x + rw) (by omega)]
  refine Evp.pos (by omega) ?_
  rw [show ((g : Int) + x).toNat = g + x by omega, show ((g : Int) + x + rw).toNat = g + x + rw by omega]
  refine Evp.ret (Run.ret ?_)
  unfold slAddr3
  rw [if_neg (by omega), show g + x + rw - (g + x) = rw by omega]
  rfl
theorem row_rd {M : Mem} {i : Nat} (hr : RdI M .u8 A xs) (hin : (y + i) * w + x + rw ≤ xs.length) : RdI M .u8 (A.map fun a => plus a ((y + i) * w + x)) ((xs.drop ((y + i) * w + x)).take rw) := by
  have := hr.slAddr (l := (y + i) * w + x) (h := (y + i) * w + x + rw) (c := xs.length + 1) (by omega) hin (by omega)
  unfold slAddr at this
  rw [if_neg (by omega), show (y + i) * w + x + rw - ((y + i) * w + x) = rw by omega] at this
  exact this
def cutS (w : Nat) (xs : List Int) (x y rw n : Nat) : List Int := (List.range n).map fun q => xs.getD ((y + q / rw) * w + (x + q % rw)) 0
theorem cutS_len (w : Nat) (xs : List Int) (x y rw n : Nat) : (cutS w xs x y rw n).length = n := by simp [cutS]
theorem cutS_row (hr1 : 1 ≤ rw) (i : Nat) (hin : (y + i) * w + x + rw ≤ xs.length) : cutS w xs x y rw (i * rw) ++ (xs.drop ((y + i) * w + x)).take rw = cutS w xs x y rw ((i + 1) * rw) := by
  apply ext_getD
  · rw [List.length_append, cutS_len, cutS_len, List.length_take, List.length_drop, Nat.succ_mul]; omega
  · intro q hq
    rw [List.length_append, cutS_len, List.length_take, List.length_drop] at hq
    have hq2 : q < (i + 1) * rw := by rw [Nat.succ_mul]; omega
    unfold cutS
    rw [getD_map_range hq2]
    by_cases h : q < i * rw
    · rw [getD_app1 (by simpa using h), getD_map_range h]
    · obtain ⟨s, hs⟩ : ∃ s, q = i * rw + s := ⟨q - i * rw, by omega⟩
      subst hs
      obtain ⟨d1, d2⟩ := dm (W := rw) (r := i) (s := s) (by omega)
      rw [getD_app2 (by simp), d1, d2]
      simp only [List.length_map, List.length_range]
      rw [show i * rw + s - i * rw = s by omega, getD_dt (by omega)]
      congr 1; omega
theorem cut_loop (lo : Nat) (M0 : Mem) (hlo : lo ≤ M0.length) (hr : RdI M0 .u8 A xs) (hw : w ≤ 512) (hh : h ≤ 512) (hn : xs.length = w * h) (hc : xs.length ≤ c) (hr1 : 1 ≤ rw) (hx : x + rw ≤ w) (hy : y + rh ≤ h) :
    ∀ (d i : Nat) (M : Mem) (B : Option Addr) (cc : Nat), rh - i = d → i ≤ rh → Pre M0 M → (i * rw ≤ cc ∨ i = 0) → Grow M0 M 1 B (i * rw) ((cutS w xs x y rw (i * rw)).map (Value.int .u8)) →
    Run P T lo F.plane_Cut (plane_Cut.c244 B (i * rw) cc rh i w h A xs.length c x y rw rh M) fun r => ∃ B' cc' M', r = (.tuple ⟨[.slice B' (cutS w xs x y rw (rh * rw)).length cc', .int .i64 0]⟩, M') ∧ Pre M0 M' ∧ Grow M0 M' 1 B' (cutS w xs x y rw (rh * rw)).length ((cutS w xs x y rw (rh * rw)).map (Value.int .u8)) ∧ (cutS w xs x y rw (rh * rw)).length ≤ cc' := by
  have hmax : w * h ≤ 512 * 512 := Nat.mul_le_mul hw hh
  intro d
  induction d with
  | zero =>
    intro i M B cc hd hi hp hcc hg
    obtain rfl : i = rh := by omega
    refine Run.cut (Evp.of_eq (fun k => plane_Cut.p244 k ..) ?_)
    refine Evp.dec (fun h => absurd h (by omega)) fun _ => Evp.ret (Run.ret ⟨B, cc, M, ?_, hp, ?_, ?_⟩)
    · rw [cutS_len]
    · rw [cutS_len]; exact hg
    · rw [cutS_len]
      rcases hcc with h | h
      · exact h
      · rw [h, Nat.zero_mul]; exact Nat.zero_le _
  | succ d ih =>
    intro i M B cc hd hi hp hcc hg
    refine Run.cut (Evp.of_eq (fun k => plane_Cut.p244 k ..) ?_)
    refine Evp.dec (fun _ => ?_) fun h => absurd h (by omega)
    refine Evp.ob (row_ok lo i M hw hh hn hc hr1 hx hy (by omega)) ?_
    rintro _ rfl
    simp only [ret_int, ret_bool, ret_flt, ret_slc, ret_str, ret_ptr, ret_agg, ret_tup, ob_some, bb_true, bb_false, List.getElem?_cons_zero, List.getElem?_cons_succ, List.length_cons, List.length_nil, Nat.reduceAdd, Nat.reduceLT]
    have hin : (y + i) * w + x + rw ≤ xs.length := by
      have : (y + i + 1) * w ≤ h * w := Nat.mul_le_mul_right _ (by omega)
      rw [Nat.succ_mul, Nat.mul_comm h w] at this
      omega
    have hrow := (row_rd (hr.pre hp) hin).src
    rw [List.length_take, List.length_drop, Nat.min_eq_left (by omega)] at hrow
    refine Evp.some hrow ?_
    have hb1 : (i + 1) * rw ≤ rh * w := Nat.mul_le_mul (by omega) (by omega)
    have hb2 : rh * w ≤ 512 * 512 := Nat.mul_le_mul (by omega) hw
    have hsm : (i + 1) * rw = i * rw + rw := Nat.succ_mul _ _
    obtain ⟨s, M', h1, h2, h3, h4, _, h5⟩ := hg.app (lo := lo) (bytes := 1) (c := cc) (m := rw) (vs := ((xs.drop ((y + i) * w + x)).take rw).map (Value.int .u8)) hp hlo (by simp; omega) (by omega) (by omega)
    rw [← List.map_append, cutS_row hr1 i hin, h3, ← hsm] at h2
    refine Evp.some h1 ?_
    rw [h3, ← hsm, w64 (by omega)]
    exact Evp.ret (ih (i + 1) M' s.a s.c (by omega) (by omega) h4 (.inl (by
      rcases hcc with hcc | hcc
      · rw [hsm, ← h3]; exact h5 hcc
      · rw [hsm, ← h3]; exact h5 (by rw [hcc, Nat.zero_mul]; exact Nat.zero_le _))) h2)
end
/-- What Cut hands back. -/
def CutR (M : Mem) (w h : Int) (xs : List Int) (x y rw rh : Int) (r : Value × Mem) : Prop :=
  Pre M r.2 ∧ if checkS w h xs.length = 0 ∧ WithinP w h x y rw rh then ∃ B cc, r.1 = .tuple ⟨[.slice B (cutS w.toNat xs x.toNat y.toNat rw.toNat (rh.toNat * rw.toNat)).length cc, .int .i64 0]⟩ ∧ Grow M r.2 1 B (cutS w.toNat xs x.toNat y.toNat rw.toNat (rh.toNat * rw.toNat)).length ((cutS w.toNat xs x.toNat y.toNat rw.toNat (rh.toNat * rw.toNat)).map (Value.int .u8)) ∧ (cutS w.toNat xs x.toNat y.toNat rw.toNat (rh.toNat * rw.toNat)).length ≤ cc
    else r.1 = .tuple ⟨[.slice none 0 0, .int .i64 2]⟩
theorem pcut_ok (lo : Nat) (w h : Int) (A : Option Addr) (c : Nat) (xs : List Int) (x y rw rh : Int) (M : Mem) (hr : RdI M .u8 A xs) (hc : xs.length ≤ c) (hlo : lo ≤ M.length) :
    Ac P T lo F.plane_Cut [.agg ⟨[.int .i64 w, .int .i64 h, .slice A xs.length c]⟩, .agg ⟨[.int .i64 x, .int .i64 y, .int .i64 rw, .int .i64 rh]⟩] M (CutR M w h xs x y rw rh) := by
  refine Ac.of (Evp.of_eq (fun k => plane_Cut.entry k ..) ?_)
  refine Evp.ob (within_ok ..) ?_
  rintro _ rfl
  simp only [ret_int, ret_bool, ret_flt, ret_slc, ret_str, ret_ptr, ret_agg, ret_tup, ob_some, bb_true, bb_false, List.getElem?_cons_zero, List.getElem?_cons_succ, List.length_cons, List.length_nil, Nat.reduceAdd, Nat.reduceLT]
  refine Evp.nb (fun h1 => ?_) fun h1 => ?_
  · have := of_decide_eq_false h1
    exact Evp.ret (Run.ret ⟨Pre.refl _, by rw [if_neg this]⟩)
  · obtain ⟨hk, hwi⟩ := of_decide_eq_true h1
    have hs := checkS_len' hk
    obtain ⟨h1, h2, h3, h4, h5, h6⟩ := hwi
    have hwi : WithinP w h x y rw rh := ⟨h1, h2, h3, h4, h5, h6⟩
    obtain ⟨w, rfl⟩ := Int.eq_ofNat_of_zero_le (a := w) (by omega)
    obtain ⟨h, rfl⟩ := Int.eq_ofNat_of_zero_le (a := h) (by omega)
    obtain ⟨x, rfl⟩ := Int.eq_ofNat_of_zero_le h3
    obtain ⟨y, rfl⟩ := Int.eq_ofNat_of_zero_le h4
    obtain ⟨rw', rfl⟩ := Int.eq_ofNat_of_zero_le (a := rw) (by omega)
    obtain ⟨rh, rfl⟩ := Int.eq_ofNat_of_zero_le (a := rh) (by omega)
    have hm : rw' * rh ≤ 512 * 512 := Nat.mul_le_mul (by omega) (by omega)
    have e : (rw' : Int) * (rh : Int) = ((rw' * rh : Nat) : Int) := by simp
    have hnn : xs.length = w * h := by have := hs.2.2.2.2; rw [← Int.natCast_mul] at this; omega
    rw [e, w64 (by omega)]
    refine Evp.pos ⟨by omega, by show ((rw' * rh : Nat) : Int).toNat * 1 ≤ 140737488355328; omega⟩ ?_
    have fin := cut_loop (w := w) (h := h) (x := x) (y := y) (rw := rw') (rh := rh) (xs := xs) (A := A) (c := c) lo M hlo hr (by omega) (by omega) hnn hc (by omega) (by omega) (by omega) rh 0 (M ++ [⟨.op 1, []⟩]) (some ⟨M.length, 0, some 0⟩) 0 rfl (by omega) (Pre.app _ _) (.inr rfl) (by
      rw [Nat.zero_mul]; exact ⟨by simp [cutS], .inr ⟨M.length, rfl, Nat.le_refl _, by simp [cutS]⟩⟩)
    rw [Nat.zero_mul] at fin
    refine Evp.ret (fin.mono ?_)
    rintro _ ⟨B, cc, M', rfl, p, g, gc⟩
    refine ⟨p, ?_⟩
    rw [if_pos ⟨hk, hwi⟩]
    exact ⟨B, cc, rfl, g, gc⟩
end Go.Zt
