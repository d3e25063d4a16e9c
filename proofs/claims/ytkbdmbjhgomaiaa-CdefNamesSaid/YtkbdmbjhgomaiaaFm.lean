/- Frames: what may be, and what strength a block has. -/
import Derived.Test.YtkbdmbjhgomaiaaFj
import Derived.Test.YtkbdmbjhgomaiaaFl
set_option linter.unusedVariables false
set_option linter.unusedSimpArgs false
set_option maxRecDepth 100000
namespace Go.Zt
theorem dm {W r s : Nat} (hs : s < W) : (r * W + s) / W = r ∧ (r * W + s) % W = s := by
  rw [Nat.mul_comm, Nat.mul_add_div (by omega), Nat.mul_add_mod, Nat.div_eq_of_lt hs, Nat.mod_eq_of_lt hs]
  exact ⟨by omega, rfl⟩
theorem dm_lt {W h q : Nat} (hq : q < h * W) : 0 < W ∧ q / W < h ∧ q % W < W ∧ q = (q / W) * W + q % W := by
  have hW : 0 < W := by
    rcases Nat.eq_zero_or_pos W with e | e
    · rw [e] at hq; simp at hq
    · exact e
  refine ⟨hW, Nat.div_lt_of_lt_mul (by rwa [Nat.mul_comm] at hq), Nat.mod_lt _ hW, ?_⟩
  have := Nat.div_add_mod q W
  rw [Nat.mul_comm] at this
  exact this.symm
theorem dm_in {W h r s : Nat} (hr : r < h) (hs : s < W) : r * W + s < h * W := by
  have : (r + 1) * W ≤ h * W := Nat.mul_le_mul_right _ hr
  rw [Nat.succ_mul] at this
  omega
theorem getD_dt {xs : List Int} {o n i : Nat} (hi : i < n) : ((xs.drop o).take n).getD i 0 = xs.getD (o + i) 0 := by
  simp only [List.getD_eq_getElem?_getD, List.getElem?_take, if_pos hi, List.getElem?_drop]
theorem getD_app1 {xs ys : List Int} {i : Nat} (h : i < xs.length) : (xs ++ ys).getD i 0 = xs.getD i 0 := by
  simp only [List.getD_eq_getElem?_getD, List.getElem?_append_left h]
theorem getD_app2 {xs ys : List Int} {i : Nat} (h : xs.length ≤ i) : (xs ++ ys).getD i 0 = ys.getD (i - xs.length) 0 := by
  simp only [List.getD_eq_getElem?_getD, List.getElem?_append_right h]
def WithinP (w h x y rw rh : Int) : Prop := 1 ≤ rw ∧ 1 ≤ rh ∧ 0 ≤ x ∧ 0 ≤ y ∧ x + rw ≤ w ∧ y + rh ≤ h
instance (w h x y rw rh : Int) : Decidable (WithinP w h x y rw rh) := inferInstanceAs (Decidable (_ ∧ _))
section
variable (lo : Nat) (w h : Int) (A : Option Addr) (n c : Nat) (x y rw rh : Int) (M : Mem)
theorem within_ok : Ac P T lo F.plane_within [.agg ⟨[.int .i64 w, .int .i64 h, .slice A n c]⟩, .agg ⟨[.int .i64 x, .int .i64 y, .int .i64 rw, .int .i64 rh]⟩] M fun r => r = (.bool (decide (checkS w h n = 0 ∧ WithinP w h x y rw rh)), M) := by
  have no : ¬ (checkS w h n = 0 ∧ WithinP w h x y rw rh) → Run P T lo F.plane_within (.ret (.bool false) M) fun r => r = (.bool (decide (checkS w h n = 0 ∧ WithinP w h x y rw rh)), M) := fun hn => Run.ret (by rw [decide_eq_false hn])
  refine Ac.of (Evp.of_eq (fun k => plane_within.entry k ..) ?_)
  refine Evp.ob (check_ok ..) ?_
  rintro _ rfl
  simp only [ret_int, ret_bool, ret_flt, ret_slc, ret_str, ret_ptr, ret_agg, ret_tup, ob_some, bb_true, bb_false, List.getElem?_cons_zero, List.getElem?_cons_succ, List.length_cons, List.length_nil, Nat.reduceAdd, Nat.reduceLT]
  refine Evp.eqb (fun h0 => ?_) fun h0 => Evp.ret (no fun e => h0 e.1)
  have hs := checkS_len' h0
  refine Evp.dec (fun h1 => ?_) fun h1 => Evp.ret (no fun e => by have := e.2; unfold WithinP at this; omega)
  refine Evp.dec (fun h2 => ?_) fun h2 => Evp.ret (no fun e => by have := e.2; unfold WithinP at this; omega)
  refine Evp.dec (fun h3 => ?_) fun h3 => Evp.ret (no fun e => by have := e.2; unfold WithinP at this; omega)
  refine Evp.dec (fun h4 => ?_) fun h4 => Evp.ret (no fun e => by have := e.2; unfold WithinP at this; omega)
  refine Evp.dec (fun h5 => ?_) fun h5 => Evp.ret (no fun e => by have := e.2; unfold WithinP at this; omega)
  refine Evp.dec (fun h6 => ?_) fun h6 => Evp.ret (no fun e => by have := e.2; unfold WithinP at this; omega)
  rw [w64 (x := w - rw) (by omega), w64 (x := h - rh) (by omega)]
  refine Evp.dec (fun h7 => ?_) fun h7 => Evp.ret (no fun e => by have := e.2; unfold WithinP at this; omega)
  refine Evp.ret (Run.ret ?_)
  congr 2
  exact decide_eq_decide.2 (by unfold WithinP; omega)
end
section
variable {w h x y rw rh : Nat} {xs : List Int} {A : Option Addr} {c : Nat}
theorem row_ok (lo i : Nat) (M : Mem) (hw : w ≤ 512) (hh : h ≤ 512) (hn : xs.length = w * h) (hc : xs.length ≤ c) (hr1 : 1 ≤ rw) (hx : x + rw ≤ w) (hy : y + rh ≤ h) (hi : i < rh) :
    Ac P T lo F.plane_row [.agg ⟨[.int .i64 w, .int .i64 h, .slice A xs.length c]⟩, .agg ⟨[.int .i64 x, .int .i64 y, .int .i64 rw, .int .i64 rh]⟩, .int .i64 i] M fun r => r = (.slice (A.map fun a => plus a ((y + i) * w + x)) rw rw, M) := by
  refine Ac.of (Evp.of_eq (fun k => plane_row.entry k ..) ?_)
  have hin : (y + i) * w + x + rw ≤ w * h := by
    have : (y + i + 1) * w ≤ h * w := Nat.mul_le_mul_right _ (by omega)
    rw [Nat.succ_mul, Nat.mul_comm h w] at this
    omega
  have hmax : w * h ≤ 512 * 512 := Nat.mul_le_mul hw hh
  have e0 : ((y : Int) + i) * w = (((y + i) * w : Nat) : Int) := by simp
  rw [w64 (x := (y : Int) + i) (by omega), e0]
  generalize hg : (y + i) * w = g at *
  rw [w64 (x := (g : Int)) (by omega), w64 (x := (g : Int) + x) (by omega), w64 (x := (g : Int) + x + rw) (by omega)]
  refine Evp.pos (by omega) ?_
  rw [show ((g : Int) + x).toNat = g + x by omega, show ((g : Int) + x + rw).toNat = g + x + rw by omega]
  refine Evp.ret (Run.ret ?_)
  unfold slAddr3
  rw [if_neg (by omega), show g + x + rw - (g + x) = rw by omega]
  rfl
theorem row_rd {M : Mem} {i : Nat} (hr : RdI M .u8 A xs) (hin : (y + i) * w + x + rw ≤ xs.length) : RdI M .u8 (A.map fun a => plus a ((y + i) * w + x)) ((xs.drop ((y + i) * w + x)).take rw) := by
  have := hr.slAddr (l := (y + i) * w + x) (h := (y + i) * w + x + rw) (c := xs.length + 1) (by omega) hin (by omega)
  unfold slAddr at this
  rw [if_neg (by omega), show (y + i) * w + x + rw - ((y + i) * w + x) = rw by omega] at this
  exact this
def cutS (w : Nat) (xs : List Int) (x y rw n : Nat) : List Int := (List.range n).map fun q => xs.getD ((y + q / rw) * w + (x + q % rw)) 0
theorem cutS_len (w : Nat) (xs : List Int) (x y rw n : Nat) : (cutS w xs x y rw n).length = n := by simp [cutS]
theorem cutS_row (hr1 : 1 ≤ rw) (i : Nat) (hin : (y + i) * w + x + rw ≤ xs.length) : cutS w xs x y rw (i * rw) ++ (xs.drop ((y + i) * w + x)).take rw = cutS w xs x y rw ((i + 1) * rw) := by
  apply ext_getD
  · rw [List.length_append, cutS_len, cutS_len, List.length_take, List.length_drop, Nat.succ_mul]; omega
  · intro q hq
    rw [List.length_append, cutS_len, List.length_take, List.length_drop] at hq
    have hq2 : q < (i + 1) * rw := by rw [Nat.succ_mul]; omega
    unfold cutS
    rw [getD_map_range hq2]
    by_cases h : q < i * rw
    · rw [getD_app1 (by simpa using h), getD_map_range h]
    · obtain ⟨s, hs⟩ : ∃ s, q = i * rw + s := ⟨q - i * rw, by omega⟩
      subst hs
      obtain ⟨d1, d2⟩ := dm (W := rw) (r := i) (s := s) (by omega)
      rw [getD_app2 (by simp), d1, d2]
      simp only [List.length_map, List.length_range]
      rw [show i * rw + s - i * rw = s by omega, getD_dt (by omega)]
      congr 1; omega
theorem cut_loop (lo : Nat) (M0 : Mem) (hlo : lo ≤ M0.length) (hr : RdI M0 .u8 A xs) (hw : w ≤ 512) (hh : h ≤ 512) (hn : xs.length = w * h) (hc : xs.length ≤ c) (hr1 : 1 ≤ rw) (hx : x + rw ≤ w) (hy : y + rh ≤ h) :
    ∀ (d i : Nat) (M : Mem) (B : Option Addr) (cc : Nat), rh - i = d → i ≤ rh → Pre M0 M → (i * rw ≤ cc ∨ i = 0) → Grow M0 M 1 B (i * rw) ((cutS w xs x y rw (i * rw)).map (Value.int .u8)) →
    Run P T lo F.plane_Cut (plane_Cut.c244 B (i * rw) cc rh i w h A xs.length c x y rw rh M) fun r => ∃ B' cc' M', r = (.tuple ⟨[.slice B' (cutS w xs x y rw (rh * rw)).length cc', .int .i64 0]⟩, M') ∧ Pre M0 M' ∧ Grow M0 M' 1 B' (cutS w xs x y rw (rh * rw)).length ((cutS w xs x y rw (rh * rw)).map (Value.int .u8)) ∧ (cutS w xs x y rw (rh * rw)).length ≤ cc' := by
  have hmax : w * h ≤ 512 * 512 := Nat.mul_le_mul hw hh
  intro d
  induction d with
  | zero =>
    intro i M B cc hd hi hp hcc hg
    obtain rfl : i = rh := by omega
    refine Run.cut (Evp.of_eq (fun k => plane_Cut.p244 k ..) ?_)
    refine Evp.dec (fun h => absurd h (by omega)) fun _ => Evp.ret (Run.ret ⟨B, cc, M, ?_, hp, ?_, ?_⟩)
    · rw [cutS_len]
    · rw [cutS_len]; exact hg
    · rw [cutS_len]
      rcases hcc with h | h
      · exact h
      · rw [h, Nat.zero_mul]; exact Nat.zero_le _
  | succ d ih =>
    intro i M B cc hd hi hp hcc hg
    refine Run.cut (Evp.of_eq (fun k => plane_Cut.p244 k ..) ?_)
    refine Evp.dec (fun _ => ?_) fun h => absurd h (by omega)
    refine Evp.ob (row_ok lo i M hw hh hn hc hr1 hx hy (by omega)) ?_
    rintro _ rfl
    simp only [ret_int, ret_bool, ret_flt, ret_slc, ret_str, ret_ptr, ret_agg, ret_tup, ob_some, bb_true, bb_false, List.getElem?_cons_zero, List.getElem?_cons_succ, List.length_cons, List.length_nil, Nat.reduceAdd, Nat.reduceLT]
    have hin : (y + i) * w + x + rw ≤ xs.length := by
      have : (y + i + 1) * w ≤ h * w := Nat.mul_le_mul_right _ (by omega)
      rw [Nat.succ_mul, Nat.mul_comm h w] at this
      omega
    have hrow := (row_rd (hr.pre hp) hin).src
    rw [List.length_take, List.length_drop, Nat.min_eq_left (by omega)] at hrow
    refine Evp.some hrow ?_
    have hb1 : (i + 1) * rw ≤ rh * w := Nat.mul_le_mul (by omega) (by omega)
    have hb2 : rh * w ≤ 512 * 512 := Nat.mul_le_mul (by omega) hw
    have hsm : (i + 1) * rw = i * rw + rw := Nat.succ_mul _ _
    obtain ⟨s, M', h1, h2, h3, h4, _, h5⟩ := hg.app (lo := lo) (bytes := 1) (c := cc) (m := rw) (vs := ((xs.drop ((y + i) * w + x)).take rw).map (Value.int .u8)) hp hlo (by simp; omega) (by omega) (by omega)
    rw [← List.map_append, cutS_row hr1 i hin, h3, ← hsm] at h2
    refine Evp.some h1 ?_
    rw [h3, ← hsm, w64 (by omega)]
    exact Evp.ret (ih (i + 1) M' s.a s.c (by omega) (by omega) h4 (.inl (by
      rcases hcc with hcc | hcc
      · rw [hsm, ← h3]; exact h5 hcc
      · rw [hsm, ← h3]; exact h5 (by rw [hcc, Nat.zero_mul]; exact Nat.zero_le _))) h2)
end
/-- What Cut hands back. -/
def CutR (M : Mem) (w h : Int) (xs : List Int) (x y rw rh : Int) (r : Value × Mem) : Prop :=
  Pre M r.2 ∧ if checkS w h xs.length = 0 ∧ WithinP w h x y rw rh then ∃ B cc, r.1 = .tuple ⟨[.slice B (cutS w.toNat xs x.toNat y.toNat rw.toNat (rh.toNat * rw.toNat)).length cc, .int .i64 0]⟩ ∧ Grow M r.2 1 B (cutS w.toNat xs x.toNat y.toNat rw.toNat (rh.toNat * rw.toNat)).length ((cutS w.toNat xs x.toNat y.toNat rw.toNat (rh.toNat * rw.toNat)).map (Value.int .u8)) ∧ (cutS w.toNat xs x.toNat y.toNat rw.toNat (rh.toNat * rw.toNat)).length ≤ cc
    else r.1 = .tuple ⟨[.slice none 0 0, .int .i64 2]⟩
theorem pcut_ok (lo : Nat) (w h : Int) (A : Option Addr) (c : Nat) (xs : List Int) (x y rw rh : Int) (M : Mem) (hr : RdI M .u8 A xs) (hc : xs.length ≤ c) (hlo : lo ≤ M.length) :
    Ac P T lo F.plane_Cut [.agg ⟨[.int .i64 w, .int .i64 h, .slice A xs.length c]⟩, .agg ⟨[.int .i64 x, .int .i64 y, .int .i64 rw, .int .i64 rh]⟩] M (CutR M w h xs x y rw rh) := by
  refine Ac.of (Evp.of_eq (fun k => plane_Cut.entry k ..) ?_)
  refine Evp.ob (within_ok ..) ?_
  rintro _ rfl
  simp only [ret_int, ret_bool, ret_flt, ret_slc, ret_str, ret_ptr, ret_agg, ret_tup, ob_some, bb_true, bb_false, List.getElem?_cons_zero, List.getElem?_cons_succ, List.length_cons, List.length_nil, Nat.reduceAdd, Nat.reduceLT]
  refine Evp.nb (fun h1 => ?_) fun h1 => ?_
  · have := of_decide_eq_false h1
    exact Evp.ret (Run.ret ⟨Pre.refl _, by rw [if_neg this]⟩)
  · obtain ⟨hk, hwi⟩ := of_decide_eq_true h1
    have hs := checkS_len' hk
    obtain ⟨h1, h2, h3, h4, h5, h6⟩ := hwi
    have hwi : WithinP w h x y rw rh := ⟨h1, h2, h3, h4, h5, h6⟩
    obtain ⟨w, rfl⟩ := Int.eq_ofNat_of_zero_le (a := w) (by omega)
    obtain ⟨h, rfl⟩ := Int.eq_ofNat_of_zero_le (a := h) (by omega)
    obtain ⟨x, rfl⟩ := Int.eq_ofNat_of_zero_le h3
    obtain ⟨y, rfl⟩ := Int.eq_ofNat_of_zero_le h4
    obtain ⟨rw', rfl⟩ := Int.eq_ofNat_of_zero_le (a := rw) (by omega)
    obtain ⟨rh, rfl⟩ := Int.eq_ofNat_of_zero_le (a := rh) (by omega)
    have hm : rw' * rh ≤ 512 * 512 := Nat.mul_le_mul (by omega) (by omega)
    have e : (rw' : Int) * (rh : Int) = ((rw' * rh : Nat) : Int) := by simp
    have hnn : xs.length = w * h := by have := hs.2.2.2.2; rw [← Int.natCast_mul] at this; omega
    rw [e, w64 (by omega)]
    refine Evp.pos ⟨by omega, by show ((rw' * rh : Nat) : Int).toNat * 1 ≤ 140737488355328; omega⟩ ?_
    have fin := cut_loop (w := w) (h := h) (x := x) (y := y) (rw := rw') (rh := rh) (xs := xs) (A := A) (c := c) lo M hlo hr (by omega) (by omega) hnn hc (by omega) (by omega) (by omega) rh 0 (M ++ [⟨.op 1, []⟩]) (some ⟨M.length, 0, some 0⟩) 0 rfl (by omega) (Pre.app _ _) (.inr rfl) (by
      rw [Nat.zero_mul]; exact ⟨by simp [cutS], .inr ⟨M.length, rfl, Nat.le_refl _, by simp [cutS]⟩⟩)
    rw [Nat.zero_mul] at fin
    refine Evp.ret (fin.mono ?_)
    rintro _ ⟨B, cc, M', rfl, p, g, gc⟩
    refine ⟨p, ?_⟩
    rw [if_pos ⟨hk, hwi⟩]
    exact ⟨B, cc, rfl, g, gc⟩
section
variable (lo : Nat) (w h : Int) (A : Option Addr) (n c : Nat) (x y rw rh : Int) (M : Mem)
theorem rwithinP_ok (h0 : checkS w h n = 0) : Ac P T lo F.zoetroperef05_Within [.agg ⟨[.int .i64 w, .int .i64 h, .slice A n c]⟩, .agg ⟨[.int .i64 x, .int .i64 y, .int .i64 rw, .int .i64 rh]⟩] M fun r => r = (.bool (decide (WithinP w h x y rw rh)), M) := by
  have no : ¬ (WithinP w h x y rw rh) → Run P T lo F.zoetroperef05_Within (.ret (.bool false) M) fun r => r = (.bool (decide (WithinP w h x y rw rh)), M) := fun hn => Run.ret (by rw [decide_eq_false hn])
  have hs := checkS_len' h0
  refine Ac.of (Evp.of_eq (fun k => zoetroperef05_Within.entry k ..) ?_)
  refine Evp.dec (fun h1 => ?_) fun h1 => Evp.ret (no fun e => by unfold WithinP at e; omega)
  refine Evp.dec (fun h2 => ?_) fun h2 => Evp.ret (no fun e => by unfold WithinP at e; omega)
  refine Evp.dec (fun h3 => ?_) fun h3 => Evp.ret (no fun e => by unfold WithinP at e; omega)
  refine Evp.dec (fun h4 => ?_) fun h4 => Evp.ret (no fun e => by unfold WithinP at e; omega)
  refine Evp.dec (fun h5 => ?_) fun h5 => Evp.ret (no fun e => by unfold WithinP at e; omega)
  refine Evp.dec (fun h6 => ?_) fun h6 => Evp.ret (no fun e => by unfold WithinP at e; omega)
  rw [w64 (x := w - rw) (by omega), w64 (x := h - rh) (by omega)]
  refine Evp.dec (fun h7 => ?_) fun h7 => Evp.ret (no fun e => by unfold WithinP at e; omega)
  refine Evp.ret (Run.ret ?_)
  congr 2
  exact decide_eq_decide.2 (by unfold WithinP; omega)
end
theorem cutS_succ (w : Nat) (xs : List Int) (x y rw n : Nat) : cutS w xs x y rw n ++ [xs.getD ((y + n / rw) * w + (x + n % rw)) 0] = cutS w xs x y rw (n + 1) := by
  unfold cutS
  rw [List.range_succ, List.map_append]; rfl
section
variable {w h x y rw rh : Nat} {xs : List Int} {A : Option Addr} {c : Nat} {lo : Nat} {M0 : Mem} {Q : Value × Mem → Prop}
theorem rcut_in (hlo : lo ≤ M0.length) (hr : RdI M0 .u8 A xs) (hw : w ≤ 512) (hh : h ≤ 512) (hn : xs.length = w * h) (hr1 : 1 ≤ rw) (hx : x + rw ≤ w) (hy : y + rh ≤ h) (i : Nat) (hi : i < rh)
    (hnext : ∀ M B cc, Pre M0 M → (i + 1) * rw ≤ cc → Grow M0 M 1 B ((i + 1) * rw) ((cutS w xs x y rw ((i + 1) * rw)).map (Value.int .u8)) → Run P T lo F.zoetroperef05_Cut (zoetroperef05_Cut.c244 B ((i + 1) * rw) cc ((y + i + 1 : Nat) : Int) w h A xs.length c x y rw rh M) Q) :
    ∀ (d j : Nat) (M : Mem) (B : Option Addr) (cc : Nat), rw - j = d → j ≤ rw → Pre M0 M → i * rw + j ≤ cc → Grow M0 M 1 B (i * rw + j) ((cutS w xs x y rw (i * rw + j)).map (Value.int .u8)) →
    Run P T lo F.zoetroperef05_Cut (zoetroperef05_Cut.c15652 B (i * rw + j) cc ((y + i : Nat) : Int) ((x + j : Nat) : Int) w h A xs.length c x y rw rh M) Q := by
  have hmax : w * h ≤ 512 * 512 := Nat.mul_le_mul hw hh
  have hin : (y + i) * w + x + rw ≤ xs.length := by
    have : (y + i + 1) * w ≤ h * w := Nat.mul_le_mul_right _ (by omega)
    rw [Nat.succ_mul, Nat.mul_comm h w] at this
    omega
  have hb1 : i * rw + rw ≤ 512 * 512 := by
    have : (i + 1) * rw ≤ 512 * 512 := Nat.mul_le_mul (by omega) (by omega)
    rwa [Nat.succ_mul] at this
  intro d
  induction d with
  | zero =>
    intro j M B cc hd hj hp hcc hg
    obtain rfl : j = rw := by omega
    refine Run.cut (Evp.of_eq (fun k => zoetroperef05_Cut.p15652 k ..) ?_)
    rw [w64 (x := (x : Int) + j) (by omega)]
    refine Evp.dec (fun h => absurd h (by omega)) fun _ => ?_
    rw [show i * j + j = (i + 1) * j from (Nat.succ_mul _ _).symm] at hg hcc ⊢
    rw [w64 (by omega)]
    exact Evp.ret (hnext M B cc hp hcc hg)
  | succ d ih =>
    intro j M B cc hd hj hp hcc hg
    refine Run.cut (Evp.of_eq (fun k => zoetroperef05_Cut.p15652 k ..) ?_)
    rw [w64 (x := (x : Int) + rw) (by omega)]
    refine Evp.dec (fun _ => ?_) fun h => absurd h (by omega)
    have e0 : ((y + i : Nat) : Int) * (w : Int) = (((y + i) * w : Nat) : Int) := by rw [Int.natCast_mul]
    obtain ⟨d1, d2⟩ := dm (W := rw) (r := i) (s := j) (by omega)
    have hstep := cutS_succ w xs x y rw (i * rw + j)
    rw [d1, d2] at hstep
    rw [e0]
    generalize (y + i) * w = g at *
    rw [w64 (x := (g : Int)) (by omega), w64 (x := (g : Int) + ((x + j : Nat) : Int)) (by omega)]
    refine Evp.pos (by omega) ?_
    rw [show ((g : Int) + ((x + j : Nat) : Int)).toNat = g + (x + j) by omega]
    refine Evp.ldI (hr.pre hp) (by omega) fun _ _ => ?_
    obtain ⟨s, M', h1, h2, h3, h4, _, h5⟩ := hg.app (lo := lo) (bytes := 1) (c := cc) (m := 1) (vs := [.int .u8 (xs.getD (g + (x + j)) 0)]) hp hlo rfl (by omega) (by omega)
    refine Evp.some h1 ?_
    rw [h3, show [Value.int .u8 (xs.getD (g + (x + j)) 0)] = [xs.getD (g + (x + j)) 0].map (Value.int .u8) from rfl, ← List.map_append, hstep] at h2
    rw [h3, w64 (by omega)]
    exact Evp.ret (ih (j + 1) M' s.a s.c (by omega) (by omega) h4 (by rw [← Nat.add_assoc, ← h3]; exact h5 hcc) h2)
theorem rcut_loop (hlo : lo ≤ M0.length) (hr : RdI M0 .u8 A xs) (hw : w ≤ 512) (hh : h ≤ 512) (hn : xs.length = w * h) (hr1 : 1 ≤ rw) (hx : x + rw ≤ w) (hy : y + rh ≤ h) :
    ∀ (d i : Nat) (M : Mem) (B : Option Addr) (cc : Nat), rh - i = d → i ≤ rh → Pre M0 M → i * rw ≤ cc → Grow M0 M 1 B (i * rw) ((cutS w xs x y rw (i * rw)).map (Value.int .u8)) →
    Run P T lo F.zoetroperef05_Cut (zoetroperef05_Cut.c244 B (i * rw) cc ((y + i : Nat) : Int) w h A xs.length c x y rw rh M) fun r => ∃ B' cc' M', r = (.tuple ⟨[.slice B' (cutS w xs x y rw (rh * rw)).length cc', .int .i64 0]⟩, M') ∧ Pre M0 M' ∧ Grow M0 M' 1 B' (cutS w xs x y rw (rh * rw)).length ((cutS w xs x y rw (rh * rw)).map (Value.int .u8)) ∧ (cutS w xs x y rw (rh * rw)).length ≤ cc' := by
  intro d
  induction d with
  | zero =>
    intro i M B cc hd hi hp hcc hg
    obtain rfl : i = rh := by omega
    refine Run.cut (Evp.of_eq (fun k => zoetroperef05_Cut.p244 k ..) ?_)
    rw [w64 (x := (y : Int) + i) (by omega)]
    refine Evp.dec (fun h => absurd h (by omega)) fun _ => Evp.ret (Run.ret ⟨B, cc, M, ?_, hp, ?_, ?_⟩)
    · rw [cutS_len]
    · rw [cutS_len]; exact hg
    · rw [cutS_len]; exact hcc
  | succ d ih =>
    intro i M B cc hd hi hp hcc hg
    refine Run.cut (Evp.of_eq (fun k => zoetroperef05_Cut.p244 k ..) ?_)
    rw [w64 (x := (y : Int) + rh) (by omega)]
    refine Evp.dec (fun _ => ?_) fun h => absurd h (by omega)
    exact Evp.ret (rcut_in hlo hr hw hh hn hr1 hx hy i (by omega) (fun M B cc hp hcc hg => ih (i + 1) M B cc (by omega) (by omega) hp hcc hg) rw 0 M B cc rfl (by omega) hp hcc hg)
end
theorem rcut_ok (lo : Nat) (w h : Int) (A : Option Addr) (c : Nat) (xs : List Int) (x y rw rh : Int) (M : Mem) (hr : RdI M .u8 A xs) (hlo : lo ≤ M.length) :
    Ac P T lo F.zoetroperef05_Cut [.agg ⟨[.int .i64 w, .int .i64 h, .slice A xs.length c]⟩, .agg ⟨[.int .i64 x, .int .i64 y, .int .i64 rw, .int .i64 rh]⟩] M (CutR M w h xs x y rw rh) := by
  have bad : ¬ (checkS w h xs.length = 0 ∧ WithinP w h x y rw rh) → Run P T lo F.zoetroperef05_Cut (.ret (.tuple ⟨[.slice none 0 0, .int .i64 2]⟩) M) (CutR M w h xs x y rw rh) := fun h => Run.ret ⟨Pre.refl _, by rw [if_neg h]⟩
  refine Ac.of (Evp.of_eq (fun k => zoetroperef05_Cut.entry k ..) ?_)
  refine Evp.ob (rcheck_ok ..) ?_
  rintro _ rfl
  simp only [ret_int, ret_bool, ret_flt, ret_slc, ret_str, ret_ptr, ret_agg, ret_tup, ob_some, bb_true, bb_false, List.getElem?_cons_zero, List.getElem?_cons_succ, List.length_cons, List.length_nil, Nat.reduceAdd, Nat.reduceLT]
  refine Evp.neb (fun h => Evp.ret (bad fun e => h e.1)) fun hk => ?_
  refine Evp.ob (rwithinP_ok _ _ _ _ _ _ _ _ _ _ _ hk) ?_
  rintro _ rfl
  simp only [ret_int, ret_bool, ret_flt, ret_slc, ret_str, ret_ptr, ret_agg, ret_tup, ob_some, bb_true, bb_false, List.getElem?_cons_zero, List.getElem?_cons_succ, List.length_cons, List.length_nil, Nat.reduceAdd, Nat.reduceLT]
  refine Evp.nb (fun h1 => Evp.ret (bad fun e => of_decide_eq_false h1 e.2)) fun h1 => ?_
  have hwi := of_decide_eq_true h1
  have hs := checkS_len' hk
  obtain ⟨h1, h2, h3, h4, h5, h6⟩ := hwi
  have hwi : WithinP w h x y rw rh := ⟨h1, h2, h3, h4, h5, h6⟩
  obtain ⟨w, rfl⟩ := Int.eq_ofNat_of_zero_le (a := w) (by omega)
  obtain ⟨h, rfl⟩ := Int.eq_ofNat_of_zero_le (a := h) (by omega)
  obtain ⟨x, rfl⟩ := Int.eq_ofNat_of_zero_le h3
  obtain ⟨y, rfl⟩ := Int.eq_ofNat_of_zero_le h4
  obtain ⟨rw', rfl⟩ := Int.eq_ofNat_of_zero_le (a := rw) (by omega)
  obtain ⟨rh, rfl⟩ := Int.eq_ofNat_of_zero_le (a := rh) (by omega)
  have hnn : xs.length = w * h := by have := hs.2.2.2.2; rw [← Int.natCast_mul] at this; omega
  have fin := rcut_loop (w := w) (h := h) (x := x) (y := y) (rw := rw') (rh := rh) (xs := xs) (A := A) (c := c) (lo := lo) (M0 := M) hlo hr (by omega) (by omega) hnn (by omega) (by omega) (by omega) rh 0 M none 0 rfl (by omega) (Pre.refl _) (by rw [Nat.zero_mul]; exact Nat.le_refl _) (by rw [Nat.zero_mul]; exact Grow.nil)
  rw [Nat.zero_mul] at fin
  refine Evp.ret (fin.mono ?_)
  rintro _ ⟨B, cc, M', rfl, p, g, gc⟩
  refine ⟨p, ?_⟩
  rw [if_pos ⟨hk, hwi⟩]
  exact ⟨B, cc, rfl, g, gc⟩
section
variable {w h x y rw rh : Nat} {xs bs : List Int}
def layE (w : Nat) (xs bs : List Int) (x y rw rh i : Nat) : List Int := (List.range xs.length).map fun q => if (y ≤ q / w ∧ q / w < y + rh ∧ x ≤ q % w ∧ q % w < x + rw) ∧ (q / w - y) * rw + (q % w - x) < i then bs.getD ((q / w - y) * rw + (q % w - x)) 0 else xs.getD q 0
theorem layE_len (w : Nat) (xs bs : List Int) (x y rw rh i : Nat) : (layE w xs bs x y rw rh i).length = xs.length := by simp [layE]
theorem layE_zero (w : Nat) (xs bs : List Int) (x y rw rh : Nat) : layE w xs bs x y rw rh 0 = xs := by
  apply ext_getD (layE_len ..)
  intro q hq
  rw [layE_len] at hq
  unfold layE
  rw [getD_map_range hq, if_neg (fun e => absurd e.2 (Nat.not_lt_zero _))]
theorem layE_set (hn : xs.length = w * h) (hr1 : 1 ≤ rw) (hx : x + rw ≤ w) (hy : y + rh ≤ h) (i : Nat) (hi : i < rh * rw) :
    (layE w xs bs x y rw rh i).set ((y + i / rw) * w + (x + i % rw)) (bs.getD i 0) = layE w xs bs x y rw rh (i + 1) := by
  obtain ⟨i0, i1, i2, i3⟩ := dm_lt hi
  have hin : (y + i / rw) * w + (x + i % rw) < xs.length := by
    rw [hn, Nat.mul_comm w h]
    exact dm_in (by generalize i / rw = u at *; omega) (by generalize i % rw = u at *; omega)
  obtain ⟨d1, d2⟩ := dm (W := w) (r := y + i / rw) (s := x + i % rw) (by generalize i % rw = u at *; omega)
  apply ext_getD (by rw [List.length_set, layE_len, layE_len])
  intro q hq
  rw [List.length_set, layE_len] at hq
  rw [getD_set (by rw [layE_len]; exact hin)]
  have hq2 : q < h * w := by rw [Nat.mul_comm]; omega
  obtain ⟨q0, q1, q2, q3⟩ := dm_lt hq2
  unfold layE
  rw [getD_map_range hq, getD_map_range hq]
  by_cases e : q = (y + i / rw) * w + (x + i % rw)
  · subst e
    rw [if_pos rfl, d1, d2, Nat.add_sub_cancel_left, Nat.add_sub_cancel_left, ← i3, if_pos ⟨by generalize i / rw = u at *; generalize i % rw = v at *; omega, by omega⟩]
  · rw [if_neg e]
    have hne : (y ≤ q / w ∧ q / w < y + rh ∧ x ≤ q % w ∧ q % w < x + rw) → (q / w - y) * rw + (q % w - x) ≠ i := fun h1 h2 => e (by
      have h3 : q % w - x < rw := by generalize q % w = u at *; omega
      obtain ⟨g1, g2⟩ := dm (W := rw) (r := q / w - y) (s := q % w - x) h3
      rw [h2] at g1 g2
      rw [g1, g2]
      rw [Nat.add_sub_cancel' h1.1, Nat.add_sub_cancel' h1.2.2.1]
      exact q3)
    by_cases h1 : y ≤ q / w ∧ q / w < y + rh ∧ x ≤ q % w ∧ q % w < x + rw
    · have := hne h1
      generalize (q / w - y) * rw + (q % w - x) = t at *
      by_cases h2 : t < i
      · rw [if_pos ⟨h1, h2⟩, if_pos ⟨h1, by omega⟩]
      · rw [if_neg (fun e => h2 e.2), if_neg (fun e => by have := e.2; omega)]
    · rw [if_neg (fun e => h1 e.1), if_neg (fun e => h1 e.1)]
end
def sideP (n : Int) : Prop := n % 2 = 0 ∧ 16 ≤ n ∧ n ≤ 256
instance (n : Int) : Decidable (sideP n) := inferInstanceAs (Decidable (_ ∧ _))
theorem sides_ok (lo : Nat) (w h : Int) (M : Mem) : Ac P T lo F.plane_sides [.int .i64 w, .int .i64 h] M fun r => r = (.bool (decide (sideP w ∧ sideP h)), M) := by
  have a1 : ∀ z : Int, andI .i64 z 1 = z % 2 := fun z => and_mask (x := z) 1 (by omega)
  have hmin : minI w h ≤ w ∧ minI w h ≤ h ∧ (minI w h = w ∨ minI w h = h) := by unfold minI; split <;> omega
  have hmax : w ≤ maxI w h ∧ h ≤ maxI w h ∧ (maxI w h = w ∨ maxI w h = h) := by unfold maxI; split <;> omega
  refine Ac.of (Evp.of_eq (fun k => plane_sides.entry k ..) ?_)
  rw [a1, a1]
  refine Evp.eqb (fun h1 => ?_) fun h1 => Evp.ret (Run.ret (by rw [decide_eq_false (fun e => h1 e.1.1)]))
  refine Evp.eqb (fun h2 => ?_) fun h2 => Evp.ret (Run.ret (by rw [decide_eq_false (fun e => h2 e.2.1)]))
  refine Evp.dec (fun h3 => ?_) fun h3 => Evp.ret (Run.ret (by rw [decide_eq_false (fun e => by unfold sideP at e; omega)]))
  refine Evp.ret (Run.ret ?_)
  congr 2
  exact decide_eq_decide.2 (by unfold sideP; omega)
def WholeP (w0 h0 n0 w1 h1 n1 w2 h2 n2 : Int) : Prop := checkS w0 h0 n0 = 0 ∧ sideP w0 ∧ sideP h0 ∧ checkS w1 h1 n1 = 0 ∧ w1 = w0 / 2 ∧ h1 = h0 / 2 ∧ checkS w2 h2 n2 = 0 ∧ w2 = w0 / 2 ∧ h2 = h0 / 2
instance (w0 h0 n0 w1 h1 n1 w2 h2 n2 : Int) : Decidable (WholeP w0 h0 n0 w1 h1 n1 w2 h2 n2) := inferInstanceAs (Decidable (_ ∧ _))
def wholeS (w0 h0 n0 w1 h1 n1 w2 h2 n2 : Int) : Int := if WholeP w0 h0 n0 w1 h1 n1 w2 h2 n2 then 0 else 2
section
variable (lo : Nat) (w0 h0 w1 h1 w2 h2 : Int) (A0 A1 A2 : Option Addr) (n0 c0 n1 c1 n2 c2 : Nat) (M : Mem)
theorem whole_ok : Ac P T lo F.plane_Whole [.agg ⟨[.int .i64 w0, .int .i64 h0, .slice A0 n0 c0, .int .i64 w1, .int .i64 h1, .slice A1 n1 c1, .int .i64 w2, .int .i64 h2, .slice A2 n2 c2]⟩] M fun r => r = (.int .i64 (wholeS w0 h0 n0 w1 h1 n1 w2 h2 n2), M) := by
  have bad : ¬ WholeP w0 h0 n0 w1 h1 n1 w2 h2 n2 → Run P T lo F.plane_Whole (.ret (.int .i64 2) M) fun r => r = (.int .i64 (wholeS w0 h0 n0 w1 h1 n1 w2 h2 n2), M) := fun h => Run.ret (by unfold wholeS; rw [if_neg h])
  have s0 : ∀ z : Int, shrI .i64 z (minI 0 1).toNat = z := fun z => by rw [show (minI 0 1).toNat = 0 from rfl, shr_eq 0 (by omega)]; simp
  have s1 : ∀ z : Int, shrI .i64 z (minI 1 1).toNat = z / 2 := fun z => by rw [show (minI 1 1).toNat = 1 from rfl, shr_eq 1 (by omega)]; rfl
  have s2 : ∀ z : Int, shrI .i64 z (minI 2 1).toNat = z / 2 := fun z => by rw [show (minI 2 1).toNat = 1 from rfl, shr_eq 1 (by omega)]; rfl
  refine Ac.of (Evp.of_eq (fun k => plane_Whole.entry k ..) ?_)
  refine Evp.ret ?_
  refine Run.cut (Evp.of_eq (fun k => plane_Whole.p116 k ..) ?_)
  refine Evp.tt rfl (Evp.pos (by decide) (Evp.some rfl (Evp.some rfl (Evp.some rfl ?_))))
  refine Evp.ob (check_ok ..) ?_
  rintro _ rfl
  simp only [ret_int, ret_bool, ret_flt, ret_slc, ret_str, ret_ptr, ret_agg, ret_tup, ob_some, bb_true, bb_false, List.getElem?_cons_zero, List.getElem?_cons_succ, List.length_cons, List.length_nil, Nat.reduceAdd, Nat.reduceLT]
  refine Evp.neb (fun h => Evp.ret (bad fun e => h e.1)) fun k0 => ?_
  refine Evp.ob (sides_ok ..) ?_
  rintro _ rfl
  simp only [ret_int, ret_bool, ret_flt, ret_slc, ret_str, ret_ptr, ret_agg, ret_tup, ob_some, bb_true, bb_false, List.getElem?_cons_zero, List.getElem?_cons_succ, List.length_cons, List.length_nil, Nat.reduceAdd, Nat.reduceLT]
  refine Evp.nb (fun h => Evp.ret (bad fun e => of_decide_eq_false h ⟨e.2.1, e.2.2.1⟩)) fun hs => ?_
  have hs := of_decide_eq_true hs
  refine Evp.neg (by decide) ?_
  rw [s0, s0]
  refine Evp.neb (fun h => absurd rfl h) fun _ => ?_
  refine Evp.neg (by decide) ?_
  refine Evp.neb (fun h => absurd rfl h) fun _ => ?_
  rw [show IntKind.i64.wrap (0 + 1) = 1 from by decide]
  refine Evp.ret ?_
  refine Run.cut (Evp.of_eq (fun k => plane_Whole.p116 k ..) ?_)
  refine Evp.tt rfl (Evp.pos (by decide) (Evp.some rfl (Evp.some rfl (Evp.some rfl ?_))))
  refine Evp.ob (check_ok ..) ?_
  rintro _ rfl
  simp only [ret_int, ret_bool, ret_flt, ret_slc, ret_str, ret_ptr, ret_agg, ret_tup, ob_some, bb_true, bb_false, List.getElem?_cons_zero, List.getElem?_cons_succ, List.length_cons, List.length_nil, Nat.reduceAdd, Nat.reduceLT]
  refine Evp.neb (fun h => Evp.ret (bad fun e => h e.2.2.2.1)) fun k1 => ?_
  refine Evp.ob (sides_ok ..) ?_
  rintro _ rfl
  simp only [ret_int, ret_bool, ret_flt, ret_slc, ret_str, ret_ptr, ret_agg, ret_tup, ob_some, bb_true, bb_false, List.getElem?_cons_zero, List.getElem?_cons_succ, List.length_cons, List.length_nil, Nat.reduceAdd, Nat.reduceLT]
  refine Evp.ff (by rw [decide_eq_true hs]; rfl) ?_
  refine Evp.neg (by decide) ?_
  rw [s1, s1]
  refine Evp.neb (fun h => Evp.ret (bad fun e => h e.2.2.2.2.1)) fun e1 => ?_
  refine Evp.neg (by decide) ?_
  refine Evp.neb (fun h => Evp.ret (bad fun e => h e.2.2.2.2.2.1)) fun e2 => ?_
  rw [show IntKind.i64.wrap (1 + 1) = 2 from by decide]
  refine Evp.ret ?_
  refine Run.cut (Evp.of_eq (fun k => plane_Whole.p116 k ..) ?_)
  refine Evp.tt rfl (Evp.pos (by decide) (Evp.some rfl (Evp.some rfl (Evp.some rfl ?_))))
  refine Evp.ob (check_ok ..) ?_
  rintro _ rfl
  simp only [ret_int, ret_bool, ret_flt, ret_slc, ret_str, ret_ptr, ret_agg, ret_tup, ob_some, bb_true, bb_false, List.getElem?_cons_zero, List.getElem?_cons_succ, List.length_cons, List.length_nil, Nat.reduceAdd, Nat.reduceLT]
  refine Evp.neb (fun h => Evp.ret (bad fun e => h e.2.2.2.2.2.2.1)) fun k2 => ?_
  refine Evp.ob (sides_ok ..) ?_
  rintro _ rfl
  simp only [ret_int, ret_bool, ret_flt, ret_slc, ret_str, ret_ptr, ret_agg, ret_tup, ob_some, bb_true, bb_false, List.getElem?_cons_zero, List.getElem?_cons_succ, List.length_cons, List.length_nil, Nat.reduceAdd, Nat.reduceLT]
  refine Evp.ff (by rw [decide_eq_true hs]; rfl) ?_
  refine Evp.neg (by decide) ?_
  rw [s2, s2]
  refine Evp.neb (fun h => Evp.ret (bad fun e => h e.2.2.2.2.2.2.2.1)) fun e3 => ?_
  refine Evp.neg (by decide) ?_
  refine Evp.neb (fun h => Evp.ret (bad fun e => h e.2.2.2.2.2.2.2.2)) fun e4 => ?_
  rw [show IntKind.i64.wrap (2 + 1) = 3 from by decide]
  refine Evp.ret ?_
  refine Run.cut (Evp.of_eq (fun k => plane_Whole.p116 k ..) ?_)
  refine Evp.ff rfl (Evp.ret (Run.ret ?_))
  unfold wholeS
  rw [if_pos ⟨k0, hs.1, hs.2, k1, e1, e2, k2, e3, e4⟩]
end
theorem rside_ok (lo : Nat) (n : Int) (M : Mem) : Ac P T lo F.zoetroperef05_side [.int .i64 n] M fun r => r = (.bool (decide (sideP n)), M) := by
  have ht : Int.tmod n 2 = 0 ↔ n % 2 = 0 := by rw [← Int.dvd_iff_tmod_eq_zero, Int.dvd_iff_emod_eq_zero]
  refine Ac.of (Evp.of_eq (fun k => zoetroperef05_side.entry k ..) ?_)
  refine Evp.eqb (fun h1 => ?_) fun h1 => Evp.ret (Run.ret (by rw [decide_eq_false (fun e => h1 (ht.2 e.1))]))
  have h1 := ht.1 h1
  refine Evp.dec (fun h3 => ?_) fun h3 => Evp.ret (Run.ret (by rw [decide_eq_false (fun e => by unfold sideP at e; omega)]))
  refine Evp.ret (Run.ret ?_)
  congr 2
  exact decide_eq_decide.2 (by unfold sideP; omega)
section
variable (lo : Nat) (w0 h0 w1 h1 w2 h2 : Int) (A0 A1 A2 : Option Addr) (n0 c0 n1 c1 n2 c2 : Nat) (M : Mem)
theorem rwhole_ok : Ac P T lo F.zoetroperef05_Whole [.agg ⟨[.int .i64 w0, .int .i64 h0, .slice A0 n0 c0, .int .i64 w1, .int .i64 h1, .slice A1 n1 c1, .int .i64 w2, .int .i64 h2, .slice A2 n2 c2]⟩] M fun r => r = (.int .i64 (wholeS w0 h0 n0 w1 h1 n1 w2 h2 n2), M) := by
  have bad : ¬ WholeP w0 h0 n0 w1 h1 n1 w2 h2 n2 → Run P T lo F.zoetroperef05_Whole (.ret (.int .i64 2) M) fun r => r = (.int .i64 (wholeS w0 h0 n0 w1 h1 n1 w2 h2 n2), M) := fun h => Run.ret (by unfold wholeS; rw [if_neg h])
  refine Ac.of (Evp.of_eq (fun k => zoetroperef05_Whole.entry k ..) ?_)
  refine Evp.ob (rcheck_ok ..) ?_
  rintro _ rfl
  simp only [ret_int, ret_bool, ret_flt, ret_slc, ret_str, ret_ptr, ret_agg, ret_tup, ob_some, bb_true, bb_false, List.getElem?_cons_zero, List.getElem?_cons_succ, List.length_cons, List.length_nil, Nat.reduceAdd, Nat.reduceLT]
  refine Evp.neb (fun h => Evp.ret (bad fun e => h e.1)) fun k0 => ?_
  refine Evp.ob (rside_ok ..) ?_
  rintro _ rfl
  simp only [ret_int, ret_bool, ret_flt, ret_slc, ret_str, ret_ptr, ret_agg, ret_tup, ob_some, bb_true, bb_false, List.getElem?_cons_zero, List.getElem?_cons_succ, List.length_cons, List.length_nil, Nat.reduceAdd, Nat.reduceLT]
  refine Evp.nb (fun h => Evp.ret (bad fun e => of_decide_eq_false h e.2.1)) fun s1 => ?_
  refine Evp.ob (rside_ok ..) ?_
  rintro _ rfl
  simp only [ret_int, ret_bool, ret_flt, ret_slc, ret_str, ret_ptr, ret_agg, ret_tup, ob_some, bb_true, bb_false, List.getElem?_cons_zero, List.getElem?_cons_succ, List.length_cons, List.length_nil, Nat.reduceAdd, Nat.reduceLT]
  refine Evp.nb (fun h => Evp.ret (bad fun e => of_decide_eq_false h e.2.2.1)) fun s2 => ?_
  have s1 := of_decide_eq_true s1
  have s2 := of_decide_eq_true s2
  have s1' := s1
  have s2' := s2
  unfold sideP at s1' s2'
  have d1 : IntKind.i64.wrap (Int.tdiv w0 2) = w0 / 2 := by rw [Int.tdiv_eq_ediv_of_nonneg (by omega)]; exact w64 (by omega)
  have d2 : IntKind.i64.wrap (Int.tdiv h0 2) = h0 / 2 := by rw [Int.tdiv_eq_ediv_of_nonneg (by omega)]; exact w64 (by omega)
  refine Evp.ret ?_
  refine Run.cut (Evp.of_eq (fun k => zoetroperef05_Whole.p116 k ..) ?_)
  refine Evp.tt rfl (Evp.pos (by decide) (Evp.some rfl (Evp.some rfl (Evp.some rfl ?_))))
  refine Evp.ob (rcheck_ok ..) ?_
  rintro _ rfl
  simp only [ret_int, ret_bool, ret_flt, ret_slc, ret_str, ret_ptr, ret_agg, ret_tup, ob_some, bb_true, bb_false, List.getElem?_cons_zero, List.getElem?_cons_succ, List.length_cons, List.length_nil, Nat.reduceAdd, Nat.reduceLT]
  refine Evp.neb (fun h => Evp.ret (bad fun e => h e.2.2.2.1)) fun k1 => ?_
  refine Evp.pos (by decide) (Evp.some rfl ?_)
  rw [d1, d2]
  refine Evp.neb (fun h => Evp.ret (bad fun e => h e.2.2.2.2.1)) fun e1 => ?_
  refine Evp.pos (by decide) (Evp.some rfl ?_)
  refine Evp.neb (fun h => Evp.ret (bad fun e => h e.2.2.2.2.2.1)) fun e2 => ?_
  rw [show IntKind.i64.wrap (1 + 1) = 2 from by decide]
  refine Evp.ret ?_
  refine Run.cut (Evp.of_eq (fun k => zoetroperef05_Whole.p116 k ..) ?_)
  refine Evp.tt rfl (Evp.pos (by decide) (Evp.some rfl (Evp.some rfl (Evp.some rfl ?_))))
  refine Evp.ob (rcheck_ok ..) ?_
  rintro _ rfl
  simp only [ret_int, ret_bool, ret_flt, ret_slc, ret_str, ret_ptr, ret_agg, ret_tup, ob_some, bb_true, bb_false, List.getElem?_cons_zero, List.getElem?_cons_succ, List.length_cons, List.length_nil, Nat.reduceAdd, Nat.reduceLT]
  refine Evp.neb (fun h => Evp.ret (bad fun e => h e.2.2.2.2.2.2.1)) fun k2 => ?_
  refine Evp.pos (by decide) (Evp.some rfl ?_)
  rw [d1, d2]
  refine Evp.neb (fun h => Evp.ret (bad fun e => h e.2.2.2.2.2.2.2.1)) fun e3 => ?_
  refine Evp.pos (by decide) (Evp.some rfl ?_)
  refine Evp.neb (fun h => Evp.ret (bad fun e => h e.2.2.2.2.2.2.2.2)) fun e4 => ?_
  rw [show IntKind.i64.wrap (2 + 1) = 3 from by decide]
  refine Evp.ret ?_
  refine Run.cut (Evp.of_eq (fun k => zoetroperef05_Whole.p116 k ..) ?_)
  refine Evp.ff rfl (Evp.ret (Run.ret ?_))
  unfold wholeS
  rw [if_pos ⟨k0, s1, s2, k1, e1, e2, k2, e3, e4⟩]
end
section
variable (lo : Nat) (w0 h0 w1 h1 w2 h2 : Int) (A0 A1 A2 : Option Addr) (c0 c1 c2 : Nat) (xs ys zs : List Int) (M : Mem)
theorem wholeS_pos (hw : WholeP w0 h0 xs.length w1 h1 ys.length w2 h2 zs.length) : wholeS w0 h0 xs.length w1 h1 ys.length w2 h2 zs.length = 0 := by unfold wholeS; rw [if_pos hw]
theorem wholeS_neg (hw : ¬ WholeP w0 h0 xs.length w1 h1 ys.length w2 h2 zs.length) : wholeS w0 h0 xs.length w1 h1 ys.length w2 h2 zs.length = 2 := by unfold wholeS; rw [if_neg hw]
end
/-! ### How strong a block is -/
def msum (d : Nat) : Nat → Int
  | 0 => 0
  | k + 1 => msum d k + manyD d k 64
theorem msum_all : ∀ d, d < 8 → msum d 16 = 64 := by decide +kernel
theorem sum_many {b : List Int} (bb : Bytes b) (d k : Nat) : ∀ i : Nat, -(128 * manyD d k i) ≤ sumD b d k i ∧ sumD b d k i ≤ 128 * manyD d k i
  | 0 => by simp [sumD, manyD]
  | i + 1 => by
    have ih := sum_many bb d k i
    have := bb.get i
    simp only [sumD, manyD]
    split <;> omega
theorem term_many {s m : Int} (h0 : 0 < m) (h : -(128 * m) ≤ s ∧ s ≤ 128 * m) : s * s * (840 / m) ≤ 13762560 * m := by
  have e1 := mul_abs (a := s) (b := s) h h
  have q0 : 0 ≤ 840 / m := Int.ediv_nonneg (by omega) (by omega)
  have q1 : m * (840 / m) ≤ 840 := Int.mul_ediv_self_le (by omega)
  have e2 : s * s * (840 / m) ≤ 128 * m * (128 * m) * (840 / m) := Int.mul_le_mul_of_nonneg_right e1.2 q0
  have e3 : 128 * m * (128 * m) * (840 / m) = 16384 * m * (m * (840 / m)) := by
    rw [show 128 * m * (128 * m) = 16384 * m * m by rw [Int.mul_assoc, Int.mul_left_comm m 128 m, ← Int.mul_assoc 128 128, Int.mul_assoc 16384]; rfl, Int.mul_assoc (16384 * m)]
  have e4 : 16384 * m * (m * (840 / m)) ≤ 16384 * m * 840 := Int.mul_le_mul_of_nonneg_left q1 (by omega)
  omega
theorem wgt_many {b : List Int} (bb : Bytes b) (d : Nat) : ∀ k : Nat, 0 ≤ wgtD b d k ∧ wgtD b d k ≤ 13762560 * msum d k
  | 0 => by simp [wgtD, msum]
  | k + 1 => by
    have ih := wgt_many bb d k
    have t := (term_le bb d k).1
    have m0 := (manyD_le d k 64).1
    simp only [wgtD, msum]
    by_cases h : manyD d k 64 = 0
    · rw [if_pos h]; omega
    · rw [if_neg h] at t ⊢
      have := term_many (m := manyD d k 64) (by omega) (sum_many bb d k 64)
      omega
theorem best_max (b : List Int) : ∀ n d, d < n → wgtD b d 16 ≤ wgtD b (bestD b n) 16
  | 0, d, h => absurd h (Nat.not_lt_zero _)
  | n + 1, d, h => by
    have ih := best_max b n d
    simp only [bestD]
    by_cases e : d = n
    · subst e; split <;> omega
    · have := ih (by omega)
      split <;> omega
theorem strD_le {b : List Int} (bb : Bytes b) : 0 ≤ strD b ∧ strD b ≤ 860160 := by
  have hb := bestD_lt b 8
  have h1 := wgt_many bb (bestD b 8) 16
  have h2 := wgt_many bb ((bestD b 8 + 4) % 8) 16
  rw [msum_all _ (by omega)] at h1 h2
  have h3 := best_max b 8 ((bestD b 8 + 4) % 8) (by omega)
  unfold strD
  omega
def secS (n : Int) : Int := if n = 3 then 4 else n
def primS (n t : Int) : Int := if t = 0 then 0 else if t / 64 = 0 then (4 * n + 8) / 16 else (n * (4 + minI (Nat.log2 (t / 64).toNat : Nat) 12) + 8) / 16
theorem primS_mul {n t : Int} (hn : 0 ≤ n ∧ n ≤ 15) : 0 ≤ n * (4 + minI (Nat.log2 (t / 64).toNat : Nat) 12) ∧ n * (4 + minI (Nat.log2 (t / 64).toNat : Nat) 12) ≤ 240 := by
  have hm : 0 ≤ minI (Nat.log2 (t / 64).toNat : Nat) 12 ∧ minI (Nat.log2 (t / 64).toNat : Nat) 12 ≤ 12 := by unfold minI; split <;> omega
  generalize minI (Nat.log2 (t / 64).toNat : Nat) 12 = m at *
  have a := Int.mul_nonneg hn.1 (show (0 : Int) ≤ 4 + m by omega)
  have b := (mul_abs (a := n) (b := 4 + m) (A := 15) (B := 16) (by omega) (by omega)).2
  omega
theorem primS_le {n t : Int} (hn : 0 ≤ n ∧ n ≤ 15) : 0 ≤ primS n t ∧ primS n t ≤ 15 := by
  have := primS_mul (t := t) hn
  unfold primS
  repeat' split
  all_goals omega
theorem second_ok (lo : Nat) (n : Int) (M : Mem) : Ac P T lo F.cdef_second [.int .i64 n] M fun r => r = (.int .i64 (secS n), M) := by
  refine Ac.of (Evp.of_eq (fun k => cdef_second.entry k ..) ?_)
  exact Evp.eqb (fun h => Evp.ret (Run.ret (by unfold secS; rw [if_pos h]))) fun h => Evp.ret (Run.ret (by unfold secS; rw [if_neg h]))
theorem rsec_ok (lo : Nat) (n : Int) (M : Mem) : Ac P T lo F.zoetroperef23_sec [.int .i64 n] M fun r => r = (.int .i64 (secS n), M) := by
  refine Ac.of (Evp.of_eq (fun k => zoetroperef23_sec.entry k ..) ?_)
  exact Evp.eqb (fun h => Evp.ret (Run.ret (by unfold secS; rw [if_pos h]))) fun h => Evp.ret (Run.ret (by unfold secS; rw [if_neg h]))
theorem primary_ok (lo : Nat) (n t : Int) (M : Mem) (hn : 0 ≤ n ∧ n ≤ 15) (ht : 0 ≤ t ∧ t ≤ 860160) : Ac P T lo F.cdef_primary [.int .i64 n, .int .i64 t] M fun r => r = (.int .i64 (primS n t), M) := by
  have pm := primS_mul (t := t) hn
  refine Ac.of (Evp.of_eq (fun k => cdef_primary.entry k ..) ?_)
  rw [shr_eq 6 (by omega), show ((2 : Int) ^ 6) = 64 from rfl]
  refine Evp.eqb (fun h => Evp.ret (Run.ret (by unfold primS; rw [if_pos h]))) fun h => ?_
  refine Evp.eqb (fun h2 => ?_) fun h2 => ?_
  · rw [w64 (x := 4 * n) (by omega), w64 (x := 4 * n + 8) (by omega), shr_eq 4 (by omega)]
    exact Evp.ret (Run.ret (by unfold primS; rw [if_neg h, if_pos h2]; rfl))
  · obtain ⟨x, hx⟩ := Int.eq_ofNat_of_zero_le (a := t / 64) (by omega)
    have hp : primS n t = (n * (4 + minI (Nat.log2 x : Nat) 12) + 8) / 16 := by unfold primS; rw [if_neg h, if_neg h2, hx]; rfl
    rw [hp]
    rw [hx] at h2 pm ⊢
    simp only [Int.toNat_natCast] at pm
    rw [wu64 (by omega)]
    refine Evp.ob (len_ok lo x M (by omega)) ?_
    rintro _ rfl
    simp only [ret_int, ret_bool, ret_flt, ret_slc, ret_str, ret_ptr, ret_agg, ret_tup, ob_some, bb_true, bb_false, List.getElem?_cons_zero, List.getElem?_cons_succ, List.length_cons, List.length_nil, Nat.reduceAdd, Nat.reduceLT]
    have l20 := log2_le (x := x) (by omega)
    have e1 : IntKind.i64.wrap (((lenB x : Nat) : Int) - 1) = (Nat.log2 x : Nat) := by
      unfold lenB
      rw [if_neg (by omega), w64 (by omega)]; omega
    have hm : 0 ≤ minI (Nat.log2 x : Nat) 12 ∧ minI (Nat.log2 x : Nat) 12 ≤ 12 := by unfold minI; split <;> omega
    rw [e1, w64 (x := 4 + minI (Nat.log2 x : Nat) 12) (by omega), w64 (x := n * (4 + minI (Nat.log2 x : Nat) 12)) (by omega), w64 (by omega), shr_eq 4 (by omega)]
    exact Evp.ret (Run.ret rfl)
/-! ### Frames and headers -/
structure Plv where
  w : Int
  h : Int
  A : Option Addr
  c : Nat
  xs : List Int
structure Fr3 where
  p0 : Plv
  p1 : Plv
  p2 : Plv
structure Hd where
  h0 : Bool
  h1 : Int
  h2 : Bool
  h3 : Bool
  h4 : Int
  h5 : Int
  h6 : Int
  h7 : Int
  h8 : Int
  h9 : Int
  h10 : Int
  h11 : Int
  h12 : Int
  h13 : Int
  h14 : Int
  h15 : Int
  h16 : Int
  h17 : Bool
  h18 : Int
  h19 : Int
  h20 : Int
  h21 : Int
  h22 : Int
  cdef : Bool
  damp : Int
  h25 : Int
  A : Option Addr
  n : Nat
  c : Nat
  h27 : Bool
  h28 : Bool
  h29 : Bool
abbrev Fr3.cells (f : Fr3) : List Value := [.int .i64 f.p0.w, .int .i64 f.p0.h, .slice f.p0.A f.p0.xs.length f.p0.c, .int .i64 f.p1.w, .int .i64 f.p1.h, .slice f.p1.A f.p1.xs.length f.p1.c, .int .i64 f.p2.w, .int .i64 f.p2.h, .slice f.p2.A f.p2.xs.length f.p2.c]
abbrev Hd.cells (hd : Hd) : List Value := [.bool hd.h0, .int .i64 hd.h1, .bool hd.h2, .bool hd.h3, .int .i64 hd.h4, .int .i64 hd.h5, .int .i64 hd.h6, .int .i64 hd.h7, .int .i64 hd.h8, .int .i64 hd.h9, .int .i64 hd.h10, .int .i64 hd.h11, .int .i64 hd.h12, .int .i64 hd.h13, .int .i64 hd.h14, .int .i64 hd.h15, .int .i64 hd.h16, .bool hd.h17, .int .i64 hd.h18, .int .i64 hd.h19, .int .i64 hd.h20, .int .i64 hd.h21, .int .i64 hd.h22, .bool hd.cdef, .int .i64 hd.damp, .int .i64 hd.h25, .slice hd.A hd.n hd.c, .bool hd.h27, .bool hd.h28, .bool hd.h29]
def StrOk (L : List Int) (i : Nat) : Prop := (0 ≤ L.getD (i * 4) 0 ∧ L.getD (i * 4) 0 ≤ 15) ∧ (0 ≤ L.getD (i * 4 + 2) 0 ∧ L.getD (i * 4 + 2) 0 ≤ 15) ∧ (0 ≤ L.getD (i * 4 + 1) 0 ∧ L.getD (i * 4 + 1) 0 ≤ 3) ∧ (0 ≤ L.getD (i * 4 + 3) 0 ∧ L.getD (i * 4 + 3) 0 ≤ 3)
def WholeF (f : Fr3) : Prop := WholeP f.p0.w f.p0.h f.p0.xs.length f.p1.w f.p1.h f.p1.xs.length f.p2.w f.p2.h f.p2.xs.length
def CdefP (hd : Hd) (ws L : List Int) : Prop := (3 ≤ hd.damp ∧ hd.damp ≤ 6) ∧ (1 ≤ hd.n ∧ hd.n ≤ 8) ∧ (∀ i, i < hd.n → StrOk L i) ∧ ∀ i, i < ws.length → 0 ≤ ws.getD i 0 ∧ ws.getD i 0 ≤ (hd.n : Int) - 1
def MayP (f : Fr3) (qn : Nat) (ws : List Int) (hd : Hd) (L : List Int) : Prop :=
  WholeF f ∧ f.p0.w % 8 = 0 ∧ f.p0.h % 8 = 0 ∧ (qn : Int) = f.p0.w / 8 * (f.p0.h / 8) ∧ (ws.length : Int) = (f.p0.w + 63) / 64 * ((f.p0.h + 63) / 64) ∧ (hd.cdef = true → CdefP hd ws L)
theorem ldS {M : Mem} {A : Option Addr} {n : Nat} {L : List Int} (h : Rd M A n 4 (L.map (Value.int .i64))) {i : Nat} (hi : i < n) : ∃ a, A = some a ∧ (M.ld (plus a (i * 4))).bind (Value.int? .i64) = some (L.getD (i * 4) 0) ∧
    (M.ld (plus (plus a (i * 4)) 1)).bind (Value.int? .i64) = some (L.getD (i * 4 + 1) 0) ∧ (M.ld (plus (plus a (i * 4)) 2)).bind (Value.int? .i64) = some (L.getD (i * 4 + 2) 0) ∧ (M.ld (plus (plus a (i * 4)) 3)).bind (Value.int? .i64) = some (L.getD (i * 4 + 3) 0) := by
  have hl : L.length = n * 4 := by have := h.1; simpa using this
  have hm : ∀ k, k < 4 → ∃ a, A = some a ∧ (M.ld (plus a (i * 4 + k))).bind (Value.int? .i64) = some (L.getD (i * 4 + k) 0) := fun k hk => by
    obtain ⟨a, ea, _, hld⟩ := Rd.get h (i := i * 4 + k) (by omega)
    refine ⟨a, ea, ?_⟩
    rw [hld]
    exact tab_get L (i * 4 + k) (by omega)
  obtain ⟨a, rfl, h0⟩ := hm 0 (by omega)
  obtain ⟨_, e, h1⟩ := hm 1 (by omega); injection e with e; subst e
  obtain ⟨_, e, h2⟩ := hm 2 (by omega); injection e with e; subst e
  obtain ⟨_, e, h3⟩ := hm 3 (by omega); injection e with e; subst e
  refine ⟨a, rfl, h0, ?_, ?_, ?_⟩
  · rw [plus_plus]; exact h1
  · rw [plus_plus]; exact h2
  · rw [plus_plus]; exact h3
theorem squares_ok (lo : Nat) (n : Int) (M : Mem) (hn : 0 ≤ n ∧ n ≤ 1024) : Ac P T lo F.cdef_may_1 [.int .i64 n] M fun r => r = (.int .i64 ((n + 63) / 64), M) := by
  obtain ⟨x, rfl⟩ := Int.eq_ofNat_of_zero_le hn.1
  refine Ac.of (Evp.of_eq (fun k => cdef_may_1.entry k ..) ?_)
  rw [w64 (x := (x : Int) + 64) (by omega), w64 (x := (x : Int) + 64 - 1) (by omega), show (x : Int) + 64 - 1 = ((x + 63 : Nat) : Int) by omega, show Int.tdiv ((x + 63 : Nat) : Int) 64 = (((x + 63) / 64 : Nat) : Int) from rfl, w64 (by omega)]
  refine Evp.ret (Run.ret ?_)
  congr 2
section
variable (lo : Nat) (f : Fr3) (Q V : Option Addr) (qn qc vc : Nat) (ws : List Int) (hd : Hd) (L : List Int) (M : Mem)
variable (hV : RdI M .i64 V ws) (hn : ws.length ≤ 17592186043904) (hL : Rd M hd.A hd.n 4 (L.map (Value.int .i64)))
include hV hn hL
omit hL in
theorem has_idx (B : Addr) (hB : M.ld (plus B 26) = some (.slice hd.A hd.n hd.c)) : ∀ (d i : Nat), ws.length - i = d → i ≤ ws.length → (∀ j, j < i → 0 ≤ ws.getD j 0 ∧ ws.getD j 0 ≤ (hd.n : Int) - 1) → hd.n ≤ 8 →
    Run P T lo F.slices_IndexFunc__int_int (slices_IndexFunc__int_int.c52 V ws.length vc (.func (.func F.cdef_may_2) ⟨[]⟩ ⟨[.pointer (some B)]⟩) ws.length i M) fun r => ∃ z : Int, r = (.int .i64 z, M) ∧ (¬ z ≥ 0 ↔ ∀ i, i < ws.length → 0 ≤ ws.getD i 0 ∧ ws.getD i 0 ≤ (hd.n : Int) - 1) := by
  intro d
  induction d with
  | zero =>
    intro i hd' hi hj h8
    refine Run.cut (Evp.of_eq (fun k => slices_IndexFunc__int_int.p52 k ..) ?_)
    exact Evp.dec (fun g => absurd g (by omega)) fun _ => Evp.ret (Run.ret ⟨-1, rfl, fun _ j h => hj j (by omega), fun _ => by omega⟩)
  | succ d ih =>
    intro i hd' hi hj h8
    refine Run.cut (Evp.of_eq (fun k => slices_IndexFunc__int_int.p52 k ..) ?_)
    refine Evp.dec (fun _ => ?_) fun g => absurd g (by omega)
    refine Evp.pos (by omega) ?_
    simp only [Int.toNat_natCast]
    refine Evp.ldI hV (by omega) fun _ _ => Evp.some rfl ?_
    have one : Ac P T lo F.cdef_may_2 [.int .i64 (ws.getD i 0), .pointer (some B)] M fun r => r = (.bool (!decide (0 ≤ ws.getD i 0 ∧ ws.getD i 0 ≤ (hd.n : Int) - 1)), M) := by
      refine Ac.of (Evp.of_eq (fun k => cdef_may_2.entry k ..) ?_)
      rw [hB]
      refine Evp.some rfl ?_
      rw [w64 (by show _ ∧ _; dsimp only; omega)]
      refine Evp.ob (cwithin_ok ..) ?_
      rintro _ rfl
      simp only [ret_int, ret_bool, ret_flt, ret_slc, ret_str, ret_ptr, ret_agg, ret_tup, ob_some, bb_true, bb_false, List.getElem?_cons_zero, List.getElem?_cons_succ, List.length_cons, List.length_nil, Nat.reduceAdd, Nat.reduceLT]
      exact Evp.ret (Run.ret rfl)
    refine Evp.ob one ?_
    rintro _ rfl
    simp only [ret_int, ret_bool, ret_flt, ret_slc, ret_str, ret_ptr, ret_agg, ret_tup, ob_some, bb_true, bb_false, List.getElem?_cons_zero, List.getElem?_cons_succ, List.length_cons, List.length_nil, Nat.reduceAdd, Nat.reduceLT]
    refine Evp.nb (fun g => ?_) fun g => ?_
    · have g := of_decide_eq_false g
      exact Evp.ret (Run.ret ⟨i, rfl, fun e => absurd (Int.natCast_nonneg i) e, fun e => absurd (e i (by omega)) g⟩)
    · have g := of_decide_eq_true g
      rw [w64 (by omega)]
      exact Evp.ret (ih (i + 1) (by omega) (by omega) (fun j h => by
        by_cases e : j = i
        · subst e; exact g
        · exact hj j (by omega)) h8)
theorem may_ok : Ac P T lo F.cdef_may [.agg ⟨f.cells⟩, .slice Q qn qc, .slice V ws.length vc, .agg ⟨hd.cells⟩] M fun r => ∃ b M', r = (.bool b, M') ∧ Pre M M' ∧ (b = true ↔ MayP f qn ws hd L) := by
  obtain ⟨M1, hM1⟩ : ∃ M1 : Mem, M1 = M ++ [⟨.fx, [.bool hd.h0, .int .i64 hd.h1, .bool hd.h2, .bool hd.h3, .int .i64 hd.h4, .int .i64 hd.h5, .int .i64 hd.h6, .int .i64 hd.h7, .int .i64 hd.h8, .int .i64 hd.h9, .int .i64 hd.h10, .int .i64 hd.h11, .int .i64 hd.h12, .int .i64 hd.h13, .int .i64 hd.h14, .int .i64 hd.h15, .int .i64 hd.h16, .bool hd.h17, .int .i64 hd.h18, .int .i64 hd.h19, .int .i64 hd.h20, .int .i64 hd.h21, .int .i64 hd.h22, .bool hd.cdef, .int .i64 hd.damp, .int .i64 hd.h25, .slice hd.A hd.n hd.c, .bool hd.h27, .bool hd.h28, .bool hd.h29]⟩] := ⟨_, rfl⟩
  have b1 : Buf M M1 ⟨M.length, 0, none⟩ hd.cells := by rw [hM1]; exact Buf.push (Pre.refl _)
  have p1 : Pre M M1 := by rw [hM1]; exact Pre.app _ _
  have g23 : M1.ld (plus ⟨M.length, 0, none⟩ 23) = some (.bool hd.cdef) := b1.cell (i := 23) (by show 23 < 30; decide)
  have g24 : M1.ld (plus ⟨M.length, 0, none⟩ 24) = some (.int .i64 hd.damp) := b1.cell (i := 24) (by show 24 < 30; decide)
  have g26 : M1.ld (plus ⟨M.length, 0, none⟩ 26) = some (.slice hd.A hd.n hd.c) := b1.cell (i := 26) (by show 26 < 30; decide)
  have no : ¬ MayP f qn ws hd L → Evp (fun k => some (.ret (.bool false) M1)) fun out => Run P T lo F.cdef_may out fun r => ∃ b M', r = (.bool b, M') ∧ Pre M M' ∧ (b = true ↔ MayP f qn ws hd L) := fun g => Evp.ret (Run.ret ⟨false, M1, rfl, p1, fun e => absurd e (by decide), fun e => absurd e g⟩)
  have hV1 := hV.pre p1
  have hL1 := hL.pre p1
  refine Ac.of (Evp.of_eq (fun k => cdef_may.entry k ..) ?_)
  rw [← hM1]
  refine Evp.ob (whole_ok ..) ?_
  rintro _ rfl
  simp only [ret_int, ret_bool, ret_flt, ret_slc, ret_str, ret_ptr, ret_agg, ret_tup, ob_some, bb_true, bb_false, List.getElem?_cons_zero, List.getElem?_cons_succ, List.length_cons, List.length_nil, Nat.reduceAdd, Nat.reduceLT]
  refine Evp.neb (fun g => no fun e => g (by unfold wholeS; rw [if_pos (show WholeP _ _ _ _ _ _ _ _ _ from e.1)])) fun k1 => ?_
  have hw : WholeF f := by
    by_cases h : WholeF f
    · exact h
    · exfalso
      unfold wholeS at k1
      rw [if_neg (show ¬ WholeP _ _ _ _ _ _ _ _ _ from h)] at k1
      omega
  have sw : sideP f.p0.w := hw.2.1
  have sh : sideP f.p0.h := hw.2.2.1
  unfold sideP at sw sh
  rw [Int.tmod_eq_emod_of_nonneg (show 0 ≤ f.p0.w by omega), Int.tmod_eq_emod_of_nonneg (show 0 ≤ f.p0.h by omega), Int.tdiv_eq_ediv_of_nonneg (show 0 ≤ f.p0.w by omega), Int.tdiv_eq_ediv_of_nonneg (show 0 ≤ f.p0.h by omega)]
  have m1 := mul_abs (a := f.p0.w / 8) (b := f.p0.h / 8) (A := 32) (B := 32) (by omega) (by omega)
  have m2 := mul_abs (a := (f.p0.w + 63) / 64) (b := (f.p0.h + 63) / 64) (A := 5) (B := 5) (by omega) (by omega)
  rw [w64 (x := f.p0.w / 8) (by omega), w64 (x := f.p0.h / 8) (by omega), w64 (x := f.p0.w / 8 * (f.p0.h / 8)) (by omega)]
  refine Evp.neb (fun g => no fun e => g e.2.1) fun k2 => ?_
  refine Evp.neb (fun g => no fun e => g e.2.2.1) fun k3 => ?_
  refine Evp.neb (fun g => no fun e => g e.2.2.2.1) fun k4 => ?_
  refine Evp.ob (squares_ok lo f.p0.w M1 (by omega)) ?_
  rintro _ rfl
  simp only [ret_int, ret_bool, ret_flt, ret_slc, ret_str, ret_ptr, ret_agg, ret_tup, ob_some, bb_true, bb_false, List.getElem?_cons_zero, List.getElem?_cons_succ, List.length_cons, List.length_nil, Nat.reduceAdd, Nat.reduceLT]
  refine Evp.ob (squares_ok lo f.p0.h M1 (by omega)) ?_
  rintro _ rfl
  simp only [ret_int, ret_bool, ret_flt, ret_slc, ret_str, ret_ptr, ret_agg, ret_tup, ob_some, bb_true, bb_false, List.getElem?_cons_zero, List.getElem?_cons_succ, List.length_cons, List.length_nil, Nat.reduceAdd, Nat.reduceLT]
  rw [w64 (x := (f.p0.w + 63) / 64 * ((f.p0.h + 63) / 64)) (by omega)]
  refine Evp.neb (fun g => no fun e => g e.2.2.2.2.1) fun k5 => ?_
  rw [g23]
  refine Evp.some rfl ?_
  refine Evp.nb (fun g => ?_) fun kc => ?_
  · exact Evp.ret (Run.ret ⟨true, M1, rfl, p1, fun _ => ⟨hw, k2, k3, k4, k5, fun e => by rw [e] at g; cases g⟩, fun _ => rfl⟩)
  rw [g24]
  refine Evp.some rfl ?_
  refine Evp.ob (cwithin_ok ..) ?_
  rintro _ rfl
  simp only [ret_int, ret_bool, ret_flt, ret_slc, ret_str, ret_ptr, ret_agg, ret_tup, ob_some, bb_true, bb_false, List.getElem?_cons_zero, List.getElem?_cons_succ, List.length_cons, List.length_nil, Nat.reduceAdd, Nat.reduceLT]
  refine Evp.nb (fun g => no fun e => of_decide_eq_false g (e.2.2.2.2.2 kc).1) fun k6 => ?_
  have k6 := of_decide_eq_true k6
  rw [g26]
  refine Evp.some rfl ?_
  refine Evp.ob (cwithin_ok ..) ?_
  rintro _ rfl
  simp only [ret_int, ret_bool, ret_flt, ret_slc, ret_str, ret_ptr, ret_agg, ret_tup, ob_some, bb_true, bb_false, List.getElem?_cons_zero, List.getElem?_cons_succ, List.length_cons, List.length_nil, Nat.reduceAdd, Nat.reduceLT]
  refine Evp.nb (fun g => no fun e => of_decide_eq_false g (by have := (e.2.2.2.2.2 kc).2.1; omega)) fun k7 => ?_
  have k7 := of_decide_eq_true k7
  rw [g26]
  refine Evp.some rfl (Evp.ret ?_)
  have loop : ∀ (d i : Nat), hd.n - i = d → i ≤ hd.n → (∀ j, j < i → StrOk L j) → Run P T lo F.cdef_may (cdef_may.c500 V ws.length vc ⟨M.length, 0, none⟩ hd.A hd.n hd.c (hd.n : Int) i M1) fun r => ∃ b M', r = (.bool b, M') ∧ Pre M M' ∧ (b = true ↔ MayP f qn ws hd L) := by
    intro d
    induction d with
    | zero =>
      intro i hd' hi hj
      refine Run.cut (Evp.of_eq (fun k => cdef_may.p500 k ..) ?_)
      refine Evp.dec (fun g => absurd g (by omega)) fun _ => ?_
      have hc : Ac P T lo F.slices_ContainsFunc__int_int [.slice V ws.length vc, .func (.func F.cdef_may_2) ⟨[]⟩ ⟨[.pointer (some ⟨M.length, 0, none⟩)]⟩] M1 fun r => ∃ b, r = (.bool b, M1) ∧ (b = false ↔ ∀ i, i < ws.length → 0 ≤ ws.getD i 0 ∧ ws.getD i 0 ≤ (hd.n : Int) - 1) := by
        have hi0 : Ac P T lo F.slices_IndexFunc__int_int [.slice V ws.length vc, .func (.func F.cdef_may_2) ⟨[]⟩ ⟨[.pointer (some ⟨M.length, 0, none⟩)]⟩] M1 fun r => ∃ z : Int, r = (.int .i64 z, M1) ∧ (¬ z ≥ 0 ↔ ∀ i, i < ws.length → 0 ≤ ws.getD i 0 ∧ ws.getD i 0 ≤ (hd.n : Int) - 1) := by
          refine Ac.of (Evp.of_eq (fun k => slices_IndexFunc__int_int.entry k ..) ?_)
          exact Evp.ret (has_idx lo V vc ws hd M1 hV1 hn ⟨M.length, 0, none⟩ g26 _ 0 rfl (by omega) (fun j h => by omega) (by omega))
        refine Ac.of (Evp.of_eq (fun k => slices_ContainsFunc__int_int.entry k ..) ?_)
        refine Evp.ob hi0 ?_
        rintro _ ⟨z, rfl, hz⟩
        simp only [ret_int, ret_bool, ret_flt, ret_slc, ret_str, ret_ptr, ret_agg, ret_tup, ob_some, bb_true, bb_false, List.getElem?_cons_zero, List.getElem?_cons_succ, List.length_cons, List.length_nil, Nat.reduceAdd, Nat.reduceLT]
        exact Evp.ret (Run.ret ⟨_, rfl, by rw [← hz]; exact decide_eq_false_iff_not⟩)
      refine Evp.ob hc ?_
      rintro _ ⟨b, rfl, hb⟩
      simp only [ret_int, ret_bool, ret_flt, ret_slc, ret_str, ret_ptr, ret_agg, ret_tup, ob_some, bb_true, bb_false, List.getElem?_cons_zero, List.getElem?_cons_succ, List.length_cons, List.length_nil, Nat.reduceAdd, Nat.reduceLT]
      refine Evp.ret (Run.ret ⟨_, _, rfl, p1, fun e => ⟨hw, k2, k3, k4, k5, fun _ => ⟨k6, by omega, fun j h => hj j (by omega), hb.1 (by simpa using e)⟩⟩, fun e => ?_⟩)
      have := hb.2 (e.2.2.2.2.2 kc).2.2.2
      rw [this]; rfl
    | succ d ih =>
      intro i hd' hi hj
      obtain ⟨a, ea, l0, l1, l2, l3⟩ := ldS hL1 (i := i) (by omega)
      refine Run.cut (Evp.of_eq (fun k => cdef_may.p500 k ..) ?_)
      refine Evp.dec (fun _ => ?_) fun g => absurd g (by omega)
      refine Evp.pos (by omega) ?_
      simp only [Int.toNat_natCast]
      refine Evp.some ea (Evp.some l0 (Evp.some l1 (Evp.some l2 (Evp.some l3 ?_))))
      refine Evp.ob (cwithin_ok ..) ?_
      rintro _ rfl
      simp only [ret_int, ret_bool, ret_flt, ret_slc, ret_str, ret_ptr, ret_agg, ret_tup, ob_some, bb_true, bb_false, List.getElem?_cons_zero, List.getElem?_cons_succ, List.length_cons, List.length_nil, Nat.reduceAdd, Nat.reduceLT]
      refine Evp.nb (fun g => no fun e => of_decide_eq_false g ((e.2.2.2.2.2 kc).2.2.1 i (by omega)).1) fun q1 => ?_
      refine Evp.ob (cwithin_ok ..) ?_
      rintro _ rfl
      simp only [ret_int, ret_bool, ret_flt, ret_slc, ret_str, ret_ptr, ret_agg, ret_tup, ob_some, bb_true, bb_false, List.getElem?_cons_zero, List.getElem?_cons_succ, List.length_cons, List.length_nil, Nat.reduceAdd, Nat.reduceLT]
      refine Evp.nb (fun g => no fun e => of_decide_eq_false g ((e.2.2.2.2.2 kc).2.2.1 i (by omega)).2.1) fun q2 => ?_
      refine Evp.ob (cwithin_ok ..) ?_
      rintro _ rfl
      simp only [ret_int, ret_bool, ret_flt, ret_slc, ret_str, ret_ptr, ret_agg, ret_tup, ob_some, bb_true, bb_false, List.getElem?_cons_zero, List.getElem?_cons_succ, List.length_cons, List.length_nil, Nat.reduceAdd, Nat.reduceLT]
      refine Evp.nb (fun g => no fun e => of_decide_eq_false g ((e.2.2.2.2.2 kc).2.2.1 i (by omega)).2.2.1) fun q3 => ?_
      refine Evp.ob (cwithin_ok ..) ?_
      rintro _ rfl
      simp only [ret_int, ret_bool, ret_flt, ret_slc, ret_str, ret_ptr, ret_agg, ret_tup, ob_some, bb_true, bb_false, List.getElem?_cons_zero, List.getElem?_cons_succ, List.length_cons, List.length_nil, Nat.reduceAdd, Nat.reduceLT]
      refine Evp.nb (fun g => no fun e => of_decide_eq_false g ((e.2.2.2.2.2 kc).2.2.1 i (by omega)).2.2.2) fun q4 => ?_
      rw [w64 (by omega)]
      exact Evp.ret (ih (i + 1) (by omega) (by omega) fun j h => by
        by_cases e : j = i
        · subst e; exact ⟨of_decide_eq_true q1, of_decide_eq_true q2, of_decide_eq_true q3, of_decide_eq_true q4⟩
        · exact hj j (by omega))
  exact loop _ 0 rfl (by omega) fun j h => by omega
omit hV hn hL in
theorem rstrength_ok (i : Nat) : Ac P T lo F.zoetroperef23_strength [.agg ⟨[.int .i64 (L.getD (i * 4) 0), .int .i64 (L.getD (i * 4 + 1) 0), .int .i64 (L.getD (i * 4 + 2) 0), .int .i64 (L.getD (i * 4 + 3) 0)]⟩] M fun r => ∃ b, r = (.bool b, M) ∧ (b = true ↔ StrOk L i) := by
  have no : ¬ StrOk L i → Evp (fun k => some (.ret (.bool false) M)) fun out => Run P T lo F.zoetroperef23_strength out fun r => ∃ b, r = (.bool b, M) ∧ (b = true ↔ StrOk L i) := fun g => Evp.ret (Run.ret ⟨false, rfl, fun e => absurd e (by decide), fun e => absurd e g⟩)
  refine Ac.of (Evp.of_eq (fun k => zoetroperef23_strength.entry k ..) ?_)
  refine Evp.dec (fun k1 => ?_) fun g => no fun e => g e.1.1
  refine Evp.dec (fun k2 => ?_) fun g => no fun e => g e.1.2
  refine Evp.dec (fun k3 => ?_) fun g => no fun e => g e.2.1.1
  refine Evp.dec (fun k4 => ?_) fun g => no fun e => g e.2.1.2
  refine Evp.dec (fun k5 => ?_) fun g => no fun e => g e.2.2.1.1
  refine Evp.dec (fun k6 => ?_) fun g => no fun e => g e.2.2.1.2
  refine Evp.dec (fun k7 => ?_) fun g => no fun e => g e.2.2.2.1
  exact Evp.ret (Run.ret ⟨_, rfl, fun e => ⟨⟨k1, k2⟩, ⟨k3, k4⟩, ⟨k5, k6⟩, k7, of_decide_eq_true e⟩, fun e => decide_eq_true e.2.2.2.2⟩)
theorem rmay_ok : Ac P T lo F.zoetroperef23_may [.agg ⟨f.cells⟩, .slice Q qn qc, .slice V ws.length vc, .agg ⟨hd.cells⟩] M fun r => ∃ b M', r = (.bool b, M') ∧ Pre M M' ∧ (b = true ↔ MayP f qn ws hd L) := by
  have no : ¬ MayP f qn ws hd L → Evp (fun k => some (.ret (.bool false) M)) fun out => Run P T lo F.zoetroperef23_may out fun r => ∃ b M', r = (.bool b, M') ∧ Pre M M' ∧ (b = true ↔ MayP f qn ws hd L) := fun g => Evp.ret (Run.ret ⟨false, M, rfl, Pre.refl _, fun e => absurd e (by decide), fun e => absurd e g⟩)
  refine Ac.of (Evp.of_eq (fun k => zoetroperef23_may.entry k ..) ?_)
  refine Evp.ob (rwhole_ok ..) ?_
  rintro _ rfl
  simp only [ret_int, ret_bool, ret_flt, ret_slc, ret_str, ret_ptr, ret_agg, ret_tup, ob_some, bb_true, bb_false, List.getElem?_cons_zero, List.getElem?_cons_succ, List.length_cons, List.length_nil, Nat.reduceAdd, Nat.reduceLT]
  refine Evp.neb (fun g => no fun e => g (by unfold wholeS; rw [if_pos (show WholeP _ _ _ _ _ _ _ _ _ from e.1)])) fun k1 => ?_
  have hw : WholeF f := by
    by_cases h : WholeF f
    · exact h
    · exfalso
      unfold wholeS at k1
      rw [if_neg (show ¬ WholeP _ _ _ _ _ _ _ _ _ from h)] at k1
      omega
  have sw : sideP f.p0.w := hw.2.1
  have sh : sideP f.p0.h := hw.2.2.1
  unfold sideP at sw sh
  have m1 := mul_abs (a := f.p0.w / 8) (b := f.p0.h / 8) (A := 32) (B := 32) (by omega) (by omega)
  have m2 := mul_abs (a := (f.p0.w + 63) / 64) (b := (f.p0.h + 63) / 64) (A := 5) (B := 5) (by omega) (by omega)
  rw [w64 (x := f.p0.w + 63) (by omega), w64 (x := f.p0.h + 63) (by omega)]
  rw [Int.tmod_eq_emod_of_nonneg (show 0 ≤ f.p0.w by omega), Int.tmod_eq_emod_of_nonneg (show 0 ≤ f.p0.h by omega), Int.tdiv_eq_ediv_of_nonneg (show 0 ≤ f.p0.w by omega), Int.tdiv_eq_ediv_of_nonneg (show 0 ≤ f.p0.h by omega), Int.tdiv_eq_ediv_of_nonneg (show 0 ≤ f.p0.w + 63 by omega), Int.tdiv_eq_ediv_of_nonneg (show 0 ≤ f.p0.h + 63 by omega)]
  rw [w64 (x := f.p0.w / 8) (by omega), w64 (x := f.p0.h / 8) (by omega), w64 (x := f.p0.w / 8 * (f.p0.h / 8)) (by omega), w64 (x := (f.p0.w + 63) / 64) (by omega), w64 (x := (f.p0.h + 63) / 64) (by omega), w64 (x := (f.p0.w + 63) / 64 * ((f.p0.h + 63) / 64)) (by omega)]
  refine Evp.neb (fun g => no fun e => g e.2.1) fun k2 => ?_
  refine Evp.neb (fun g => no fun e => g e.2.2.1) fun k3 => ?_
  refine Evp.neb (fun g => no fun e => g e.2.2.2.1) fun k4 => ?_
  refine Evp.neb (fun g => no fun e => g e.2.2.2.2.1) fun k5 => ?_
  refine Evp.nb (fun g => ?_) fun kc => ?_
  · exact Evp.ret (Run.ret ⟨true, M, rfl, Pre.refl _, fun _ => ⟨hw, k2, k3, k4, k5, fun e => by rw [e] at g; cases g⟩, fun _ => rfl⟩)
  refine Evp.dec (fun g => no fun e => by have := (e.2.2.2.2.2 kc).1; omega) fun k6 => ?_
  refine Evp.dec (fun g => no fun e => by have := (e.2.2.2.2.2 kc).1; omega) fun k6' => ?_
  refine Evp.dec (fun g => no fun e => by have := (e.2.2.2.2.2 kc).2.1; omega) fun k7 => ?_
  refine Evp.dec (fun g => no fun e => by have := (e.2.2.2.2.2 kc).2.1; omega) fun k7' => ?_
  have idx : (∀ i, i < hd.n → StrOk L i) → ∀ (d i : Nat), ws.length - i = d → i ≤ ws.length → (∀ j, j < i → 0 ≤ ws.getD j 0 ∧ ws.getD j 0 ≤ (hd.n : Int) - 1) → Run P T lo F.zoetroperef23_may (zoetroperef23_may.c4084 V ws.length vc i hd.h0 hd.h1 hd.h2 hd.h3 hd.h4 hd.h5 hd.h6 hd.h7 hd.h8 hd.h9 hd.h10 hd.h11 hd.h12 hd.h13 hd.h14 hd.h15 hd.h16 hd.h17 hd.h18 hd.h19 hd.h20 hd.h21 hd.h22 hd.cdef hd.damp hd.h25 hd.A hd.n hd.c hd.h27 hd.h28 hd.h29 M) fun r => ∃ b M', r = (.bool b, M') ∧ Pre M M' ∧ (b = true ↔ MayP f qn ws hd L) := by
    intro hall d
    induction d with
    | zero =>
      intro i hd' hi hj
      refine Run.cut (Evp.of_eq (fun k => zoetroperef23_may.p4084 k ..) ?_)
      exact Evp.dec (fun g => absurd g (by omega)) fun _ => Evp.ret (Run.ret ⟨true, M, rfl, Pre.refl _, fun _ => ⟨hw, k2, k3, k4, k5, fun _ => ⟨by omega, by omega, hall, fun j h => hj j (by omega)⟩⟩, fun _ => rfl⟩)
    | succ d ih =>
      intro i hd' hi hj
      refine Run.cut (Evp.of_eq (fun k => zoetroperef23_may.p4084 k ..) ?_)
      refine Evp.dec (fun _ => ?_) fun g => absurd g (by omega)
      refine Evp.pos (by omega) ?_
      simp only [Int.toNat_natCast]
      refine Evp.ldI hV (by omega) fun _ _ => ?_
      refine Evp.dec (fun g => no fun e => by have := (e.2.2.2.2.2 kc).2.2.2 i (by omega); omega) fun q1 => ?_
      refine Evp.pos (by omega) (Evp.ldI hV (by omega) fun _ _ => ?_)
      refine Evp.dec (fun g => no fun e => by have := (e.2.2.2.2.2 kc).2.2.2 i (by omega); omega) fun q2 => ?_
      rw [w64 (by omega)]
      exact Evp.ret (ih (i + 1) (by omega) (by omega) fun j h => by
        by_cases e : j = i
        · subst e; omega
        · exact hj j (by omega))
  have loop : ∀ (d i : Nat), hd.n - i = d → i ≤ hd.n → (∀ j, j < i → StrOk L j) → Run P T lo F.zoetroperef23_may (zoetroperef23_may.c2036 V ws.length vc i hd.h0 hd.h1 hd.h2 hd.h3 hd.h4 hd.h5 hd.h6 hd.h7 hd.h8 hd.h9 hd.h10 hd.h11 hd.h12 hd.h13 hd.h14 hd.h15 hd.h16 hd.h17 hd.h18 hd.h19 hd.h20 hd.h21 hd.h22 hd.cdef hd.damp hd.h25 hd.A hd.n hd.c hd.h27 hd.h28 hd.h29 M) fun r => ∃ b M', r = (.bool b, M') ∧ Pre M M' ∧ (b = true ↔ MayP f qn ws hd L) := by
    intro d
    induction d with
    | zero =>
      intro i hd' hi hj
      refine Run.cut (Evp.of_eq (fun k => zoetroperef23_may.p2036 k ..) ?_)
      exact Evp.dec (fun g => absurd g (by omega)) fun _ => Evp.ret (idx (fun j h => hj j (by omega)) _ 0 rfl (by omega) fun j h => by omega)
    | succ d ih =>
      intro i hd' hi hj
      obtain ⟨a, ea, l0, l1, l2, l3⟩ := ldS hL (i := i) (by omega)
      refine Run.cut (Evp.of_eq (fun k => zoetroperef23_may.p2036 k ..) ?_)
      refine Evp.dec (fun _ => ?_) fun g => absurd g (by omega)
      refine Evp.pos (by omega) ?_
      simp only [Int.toNat_natCast]
      refine Evp.some ea (Evp.some l0 (Evp.some l1 (Evp.some l2 (Evp.some l3 ?_))))
      refine Evp.ob (rstrength_ok lo L M i) ?_
      rintro _ ⟨b, rfl, hb⟩
      simp only [ret_int, ret_bool, ret_flt, ret_slc, ret_str, ret_ptr, ret_agg, ret_tup, ob_some, bb_true, bb_false, List.getElem?_cons_zero, List.getElem?_cons_succ, List.length_cons, List.length_nil, Nat.reduceAdd, Nat.reduceLT]
      refine Evp.nb (fun g => no fun e => by rw [hb.2 ((e.2.2.2.2.2 kc).2.2.1 i (by omega))] at g; cases g) fun g => ?_
      rw [w64 (by omega)]
      exact Evp.ret (ih (i + 1) (by omega) (by omega) fun j h => by
        by_cases e : j = i
        · subst e; exact hb.1 g
        · exact hj j (by omega))
  exact Evp.ret (loop _ 0 rfl (by omega) fun j h => by omega)
end
end Go.Zt
