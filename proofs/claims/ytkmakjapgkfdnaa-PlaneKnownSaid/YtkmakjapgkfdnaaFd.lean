/- Planes made greater: sized, Pad. -/
import Derived.Test.YtkmakjapgkfdnaaFc
set_option linter.unusedVariables false
set_option linter.unusedSimpArgs false
set_option maxRecDepth 100000
namespace Go.Zt
theorem slAddr0 (B : Option Addr) (q : Nat) : slAddr 1 B 0 q = B := by
  unfold slAddr; split
  · rfl
  · cases B <;> rfl
theorem pix_nat {w h : Nat} {xs : List Int} (hw : 1 ≤ w) (hh : 1 ≤ h) (r s : Nat) : pixS w h xs r s = xs.getD (min r (h - 1) * w + min s (w - 1)) 0 := by
  have e1 : clipS (r : Int) 0 ((h : Int) - 1) = ((min r (h - 1) : Nat) : Int) := by unfold clipS; rw [if_neg (by omega)]; split <;> omega
  have e2 : clipS (s : Int) 0 ((w : Int) - 1) = ((min s (w - 1) : Nat) : Int) := by unfold clipS; rw [if_neg (by omega)]; split <;> omega
  unfold pixS
  rw [e1, e2, ← Int.natCast_mul, ← Int.natCast_add, Int.toNat_natCast]
def sizedS (w h : Int) (xs : List Int) (W n : Nat) : List Int := (List.range n).map fun q => pixS w h xs (q / W : Nat) (q % W : Nat)
theorem sizedS_len (w h : Int) (xs : List Int) (W n : Nat) : (sizedS w h xs W n).length = n := by simp [sizedS]
def szP (w h : Int) (xs : List Int) (W n y x : Nat) : List Int := (List.range n).map fun q => if q / W < y ∨ (q / W = y ∧ q % W < x) then pixS w h xs (q / W : Nat) (q % W : Nat) else 0
section
variable (w h W H : Nat) (xs : List Int)
theorem szP_len (n y x : Nat) : (szP w h xs W n y x).length = n := by simp [szP]
theorem szP_zero (n : Nat) : (szP w h xs W n 0 0).map (Value.int .u8) = zerosL [.int .u8 0] n := by
  rw [zerosL_one]; simp [szP, List.map_const']
theorem szP_next (y : Nat) : szP w h xs W (H * W) y W = szP w h xs W (H * W) (y + 1) 0 := by
  apply ext_getD (by rw [szP_len, szP_len])
  intro q hq
  rw [szP_len] at hq
  obtain ⟨q0, q1, q2, q3⟩ := dm_lt hq
  unfold szP
  rw [getD_map_range hq, getD_map_range hq]
  by_cases h1 : q / W < y ∨ (q / W = y ∧ q % W < W)
  · rw [if_pos h1, if_pos (.inl (by rcases h1 with h1 | ⟨h1, _⟩ <;> omega))]
  · have h2 : ¬ (q / W < y + 1 ∨ (q / W = y + 1 ∧ q % W < 0)) := fun e => h1 (by
      rcases e with e | ⟨_, e⟩
      · rcases Nat.lt_succ_iff_lt_or_eq.1 e with e | e
        · exact .inl e
        · exact .inr ⟨e, q2⟩
      · exact absurd e (Nat.not_lt_zero _))
    rw [if_neg h1, if_neg h2]
theorem szP_full : szP w h xs W (H * W) H 0 = sizedS w h xs W (H * W) := by
  apply ext_getD (by rw [szP_len, sizedS_len])
  intro q hq
  rw [szP_len] at hq
  obtain ⟨q0, q1, q2, q3⟩ := dm_lt hq
  unfold szP sizedS
  rw [getD_map_range hq, getD_map_range hq, if_pos (.inl q1)]
theorem szP_set (y x : Nat) (hy : y < H) (hx : x < W) (v : Int) (hv : v = pixS w h xs (y : Nat) (x : Nat)) : (szP w h xs W (H * W) y x).set (y * W + x) v = szP w h xs W (H * W) y (x + 1) := by
  obtain ⟨d1, d2⟩ := dm (W := W) (r := y) (s := x) hx
  have hin := dm_in (W := W) (h := H) hy hx
  apply ext_getD (by rw [List.length_set, szP_len, szP_len])
  intro q hq
  rw [List.length_set, szP_len] at hq
  obtain ⟨q0, q1, q2, q3⟩ := dm_lt hq
  rw [getD_set (by rw [szP_len]; exact hin)]
  unfold szP
  rw [getD_map_range hq, getD_map_range hq]
  by_cases e : q = y * W + x
  · subst e
    rw [if_pos rfl, d1, d2, if_pos (.inr ⟨rfl, by omega⟩), hv]
  · rw [if_neg e]
    by_cases h1 : q / W < y ∨ (q / W = y ∧ q % W < x)
    · rw [if_pos h1, if_pos (by rcases h1 with h1 | ⟨h1, h2⟩; exact .inl h1; exact .inr ⟨h1, by omega⟩)]
    · have h2 : ¬ (q / W < y ∨ (q / W = y ∧ q % W < x + 1)) := fun e' => h1 (by
        rcases e' with e' | ⟨e1, e2⟩
        · exact .inl e'
        · refine .inr ⟨e1, ?_⟩
          rcases Nat.lt_succ_iff_lt_or_eq.1 e2 with e2 | e2
          · exact e2
          · exact absurd (by rw [q3, e1, e2]) e)
      rw [if_neg h1, if_neg h2]
theorem szP_row (y m : Nat) (hy : y < H) (hm : m ≤ W) (vs : List Int) (hl : vs.length = m) (hv : ∀ s, s < m → vs.getD s 0 = pixS w h xs (y : Nat) (s : Nat)) : setL (szP w h xs W (H * W) y 0) (y * W) vs = szP w h xs W (H * W) y m := by
  have hend : y * W + m ≤ H * W := by
    have : (y + 1) * W ≤ H * W := Nat.mul_le_mul_right _ hy
    rw [Nat.succ_mul] at this
    omega
  apply ext_getD (by rw [setL_len, szP_len, szP_len])
  intro q hq
  rw [setL_len, szP_len] at hq
  obtain ⟨q0, q1, q2, q3⟩ := dm_lt hq
  rw [setL_getD _ _ _ _ (by rw [szP_len, hl]; exact hend), hl]
  by_cases hc : y * W ≤ q ∧ q < y * W + m
  · obtain ⟨s, hs⟩ : ∃ s, q = y * W + s := ⟨q - y * W, by omega⟩
    obtain ⟨d1, d2⟩ := dm (W := W) (r := y) (s := s) (by omega)
    rw [if_pos hc, hs, show y * W + s - y * W = s by omega, hv s (by omega)]
    unfold szP
    rw [getD_map_range (by omega), d1, d2, if_pos (.inr ⟨rfl, by omega⟩)]
  · rw [if_neg hc]
    unfold szP
    rw [getD_map_range hq, getD_map_range hq]
    by_cases h1 : q / W < y ∨ (q / W = y ∧ q % W < 0)
    · rw [if_pos h1, if_pos (by rcases h1 with h1 | ⟨h1, h2⟩; exact .inl h1; omega)]
    · have h2 : ¬ (q / W < y ∨ (q / W = y ∧ q % W < m)) := fun e' => by
        rcases e' with e' | ⟨e1, e2⟩
        · exact h1 (.inl e')
        · exact hc (by rw [e1] at q3; omega)
      rw [if_neg h1, if_neg h2]
end
section
variable {w h W H : Nat} {xs : List Int} {A : Option Addr} {c : Nat} {Q : Value × Mem → Prop} {lo : Nat} {M0 : Mem} {a : Addr} {n cc : Nat} {u0 u1 : Int} {u2 : Option Addr} {u3 u4 : Nat}
theorem fill_loop (hlo : lo ≤ M0.length) (hw : 1 ≤ w ∧ w ≤ 512) (hh : 1 ≤ h ∧ h ≤ 512) (hW : 1 ≤ W ∧ W ≤ 512) (hH : 1 ≤ H ∧ H ≤ 512) (y : Nat) (hy : y < H) (Fr : Option Addr) (cf ct : Nat) (fs : List Int) (hf : RdI M0 .u8 Fr fs) (hfl : fs.length = w) (hfv : ∀ s, w ≤ s → fs.getD (w - 1) 0 = pixS w h xs (y : Nat) (s : Nat))
    (hnext : ∀ M, Pre M0 M → Buf M0 M a ((szP w h xs W (H * W) (y + 1) 0).map (Value.int .u8)) → Run P T lo F.plane_sized (plane_sized.c116 W H ((y + 1 : Nat) : Int) w h A xs.length c u0 u1 u2 u3 u4 W H (some a) n cc M) Q) :
    ∀ (d x : Nat) (M : Mem), W - x = d → x ≤ W → (w ≤ x ∨ x = W) → Pre M0 M → Buf M0 M a ((szP w h xs W (H * W) y x).map (Value.int .u8)) →
    Run P T lo F.plane_sized (plane_sized.c119612 W Fr w cf (some (plus a (y * W))) W ct x H y w h A xs.length c u0 u1 u2 u3 u4 W H (some a) n cc M) Q := by
  intro d
  induction d with
  | zero =>
    intro x M hd hx hwx hp hb
    obtain rfl : x = W := by omega
    refine Run.cut (Evp.of_eq (fun k => plane_sized.p119612 k ..) ?_)
    refine Evp.dec (fun h => absurd h (by omega)) fun _ => ?_
    rw [w64 (by omega)]
    rw [szP_next] at hb
    exact Evp.ret (hnext M hp hb)
  | succ d ih =>
    intro x M hd hx hwx hp hb
    refine Run.cut (Evp.of_eq (fun k => plane_sized.p119612 k ..) ?_)
    refine Evp.dec (fun _ => ?_) fun h => absurd h (by omega)
    rw [w64 (x := (w : Int) - 1) (by omega)]
    refine Evp.pos (by omega) ?_
    rw [show ((w : Int) - 1).toNat = w - 1 by omega]
    refine Evp.ldI (hf.pre hp) (by omega) fun _ _ => ?_
    refine Evp.pos (by omega) (Evp.some rfl ?_)
    have hin := dm_in (W := W) (h := H) hy (show x < W by omega)
    obtain ⟨M1, g1, g2, g3, g4, g5⟩ := hb.st (lo := lo) (i := y * W + x) (vs := [.int .u8 (fs.getD (w - 1) 0)]) hp hlo (by simp [szP_len]; omega)
    rw [plus_plus, Int.toNat_natCast]
    refine Evp.some g1 ?_
    rw [setL_one, set_map, szP_set w h W H xs y x hy (by omega) _ (hfv x (by omega))] at g2
    rw [w64 (by omega)]
    exact Evp.ret (ih (x + 1) M1 (by omega) (by omega) (by omega) g3 g2)
theorem sized_loop (hlo : lo ≤ M0.length) (hr : RdI M0 .u8 A xs) (hc : xs.length ≤ c) (hn : xs.length = w * h) (hw : 1 ≤ w ∧ w ≤ 512) (hh : 1 ≤ h ∧ h ≤ 512) (hW : 1 ≤ W ∧ W ≤ 512) (hH : 1 ≤ H ∧ H ≤ 512) (hnn : n = H * W) (hcc : cc = H * W)
    (hend : ∀ M, Pre M0 M → Buf M0 M a ((sizedS w h xs W (H * W)).map (Value.int .u8)) → Q (.agg ⟨[.int .i64 W, .int .i64 H, .slice (some a) n cc]⟩, M)) :
    ∀ (d y : Nat) (M : Mem), H - y = d → y ≤ H → Pre M0 M → Buf M0 M a ((szP w h xs W (H * W) y 0).map (Value.int .u8)) →
    Run P T lo F.plane_sized (plane_sized.c116 W H y w h A xs.length c u0 u1 u2 u3 u4 W H (some a) n cc M) Q := by
  have hmax : w * h ≤ 512 * 512 := Nat.mul_le_mul hw.2 hh.2
  have hmax2 : H * W ≤ 512 * 512 := Nat.mul_le_mul hH.2 hW.2
  intro d
  induction d with
  | zero =>
    intro y M hd hy hp hb
    obtain rfl : y = H := by omega
    refine Run.cut (Evp.of_eq (fun k => plane_sized.p116 k ..) ?_)
    refine Evp.dec (fun h => absurd h (by omega)) fun _ => ?_
    rw [szP_full] at hb
    exact Evp.ret (Run.ret (hend M hp hb))
  | succ d ih =>
    intro y M hd hy hp hb
    refine Run.cut (Evp.of_eq (fun k => plane_sized.p116 k ..) ?_)
    refine Evp.dec (fun _ => ?_) fun h => absurd h (by omega)
    have hmin : minI (y : Int) ((h : Int) - 1) = ((min y (h - 1) : Nat) : Int) := by unfold minI; split <;> omega
    have e1 : ((min y (h - 1) : Nat) : Int) * (w : Int) = ((min y (h - 1) * w : Nat) : Int) := by rw [Int.natCast_mul]
    have e2 : (y : Int) * (W : Int) = ((y * W : Nat) : Int) := by simp
    have hoff : min y (h - 1) * w + w ≤ w * h := by
      have : (min y (h - 1) + 1) * w ≤ h * w := Nat.mul_le_mul_right _ (by omega)
      rw [Nat.succ_mul, Nat.mul_comm h w] at this
      exact this
    have hto : y * W + W ≤ H * W := by
      have : (y + 1) * W ≤ H * W := Nat.mul_le_mul_right _ (by omega)
      rw [Nat.succ_mul] at this
      exact this
    rw [w64 (x := (h : Int) - 1) (by omega), hmin, e1, e2]
    have hfv : ∀ s : Nat, xs.getD (min y (h - 1) * w + min s (w - 1)) 0 = pixS w h xs (y : Nat) (s : Nat) := fun s => (pix_nat hw.1 hh.1 y s).symm
    generalize min y (h - 1) * w = off at *
    rw [w64 (x := (off : Int)) (by omega), w64 (x := ((y * W : Nat) : Int)) (by omega)]
    simp only [Int.toNat_natCast, Nat.sub_zero]
    have hf := hr.slAddr (l := off) (h := off + w) (c := c) (by omega) (by omega) hc
    rw [show off + w - off = w by omega] at hf
    have hfl : ((xs.drop off).take w).length = w := by rw [List.length_take, List.length_drop]; omega
    refine Evp.pos (by omega) (Evp.pos (by omega) (Evp.pos (by omega) (Evp.pos (by omega) ?_)))
    have hm1 : Nat.min w W ≤ w := Nat.min_le_left _ _
    have hm2 : Nat.min w W ≤ W := Nat.min_le_right _ _
    have hm3 : 1 ≤ Nat.min w W := Nat.le_min.2 ⟨hw.1, hW.1⟩
    have hm4 : w ≤ Nat.min w W ∨ Nat.min w W = W := by
      rcases Nat.le_total w W with e | e
      · exact .inl (by rw [show Nat.min w W = w from Nat.min_eq_left e]; exact Nat.le_refl _)
      · exact .inr (Nat.min_eq_right e)
    refine Evp.some (rd_src (h := Nat.min w W) (hf.pre hp) (by omega) (by rw [hfl]; exact hm1) (by rw [hfl]; omega) (by omega)) ?_
    refine Evp.neg (by omega) ?_
    rw [slAddr0, slAddr0, slAddr_at (by omega)]
    refine Evp.some rfl ?_
    have htl : ((((xs.drop off).take w).drop 0).take (Nat.min w W)).length = Nat.min w W := by rw [List.length_take, List.drop_zero, hfl]; exact Nat.min_eq_left hm1
    obtain ⟨M1, g1, g2, g3, g4, g5⟩ := hb.st (lo := lo) (i := y * W) (vs := ((((xs.drop off).take w).drop 0).take (Nat.min w W)).map (Value.int .u8)) hp hlo (by rw [List.length_map, htl, List.length_map, szP_len]; omega)
    refine Evp.some g1 ?_
    rw [setL_ints, szP_row w h W H xs y (Nat.min w W) (by omega) hm2 _ htl (fun s hs => by
      rw [List.drop_zero, ← hfv s]
      have := getD_dt (xs := (xs.drop off).take w) (o := 0) (n := Nat.min w W) (i := s) hs
      rw [List.drop_zero, Nat.zero_add] at this
      rw [this, getD_dt (by omega), Nat.min_eq_left (by omega)])] at g2
    refine Evp.ret (fill_loop hlo hw hh hW hH y (by omega) _ _ _ _ hf hfl (fun s hs => ?_) (fun M hp hb => ih (y + 1) M (by omega) (by omega) hp hb) _ (Nat.min w W) M1 rfl hm2 hm4 g3 g2)
    rw [getD_dt (by omega), ← hfv s, Nat.min_eq_right (by omega)]
end
theorem sized_ok (lo : Nat) (w h W H : Nat) (A : Option Addr) (c : Nat) (xs : List Int) (M : Mem) (hlo : lo ≤ M.length) (hr : RdI M .u8 A xs) (hc : xs.length ≤ c) (hn : xs.length = w * h) (hw : 1 ≤ w ∧ w ≤ 512) (hh : 1 ≤ h ∧ h ≤ 512) (hW : 1 ≤ W ∧ W ≤ 512) (hH : 1 ≤ H ∧ H ≤ 512) :
    Ac P T lo F.plane_sized [.agg ⟨[.int .i64 w, .int .i64 h, .slice A xs.length c]⟩, .int .i64 W, .int .i64 H] M fun r => ∃ a M', r = (.agg ⟨[.int .i64 W, .int .i64 H, .slice (some a) (H * W) (H * W)]⟩, M') ∧ Pre M M' ∧ Buf M M' a ((sizedS w h xs W (H * W)).map (Value.int .u8)) := by
  have hmax2 : H * W ≤ 512 * 512 := Nat.mul_le_mul hH.2 hW.2
  have e : (W : Int) * (H : Int) = ((H * W : Nat) : Int) := by rw [Int.natCast_mul, Int.mul_comm]
  refine Ac.of (Evp.of_eq (fun k => plane_sized.entry k ..) ?_)
  rw [e, w64 (by omega)]
  refine Evp.pos ⟨by omega, by show ((H * W : Nat) : Int).toNat * 1 ≤ 140737488355328; omega⟩ ?_
  simp only [Int.toNat_natCast]
  refine Evp.ret (sized_loop (n := H * W) (cc := H * W) (a := ⟨M.length, 0, none⟩) hlo hr hc hn hw hh hW hH rfl rfl (fun M' hp hb => ⟨_, M', rfl, hp, hb⟩) H 0 _ rfl (by omega) (Pre.app _ _) ?_)
  rw [szP_zero]; exact Buf.push (Pre.refl M)
/-- What Pad hands back. -/
def PadR (M : Mem) (w h : Int) (xs : List Int) (W H : Int) (r : Value × Mem) : Prop :=
  Pre M r.2 ∧ if checkS w h xs.length = 0 ∧ w ≤ W ∧ W ≤ 512 ∧ h ≤ H ∧ H ≤ 512 then ∃ a, r.1 = .tuple ⟨[.agg ⟨[.int .i64 W, .int .i64 H, .slice (some a) (H.toNat * W.toNat) (H.toNat * W.toNat)]⟩, .int .i64 0]⟩ ∧ Buf M r.2 a ((sizedS w h xs W.toNat (H.toNat * W.toNat)).map (Value.int .u8))
    else r.1 = .tuple ⟨[.agg ⟨[.int .i64 0, .int .i64 0, .slice none 0 0]⟩, .int .i64 2]⟩
theorem ppad_ok (lo : Nat) (w h W H : Int) (A : Option Addr) (c : Nat) (xs : List Int) (M : Mem) (hlo : lo ≤ M.length) (hr : RdI M .u8 A xs) (hc : xs.length ≤ c) :
    Ac P T lo F.plane_Pad [.agg ⟨[.int .i64 w, .int .i64 h, .slice A xs.length c]⟩, .int .i64 W, .int .i64 H] M (PadR M w h xs W H) := by
  have bad : ¬ (checkS w h xs.length = 0 ∧ w ≤ W ∧ W ≤ 512 ∧ h ≤ H ∧ H ≤ 512) → Run P T lo F.plane_Pad (.ret (.tuple ⟨[.agg ⟨[.int .i64 0, .int .i64 0, .slice none 0 0]⟩, .int .i64 2]⟩) M) (PadR M w h xs W H) := fun hn => Run.ret ⟨Pre.refl _, by rw [if_neg hn]⟩
  refine Ac.of (Evp.of_eq (fun k => plane_Pad.entry k ..) ?_)
  refine Evp.ob (check_ok ..) ?_
  rintro _ rfl
  simp only [ret_int, ret_bool, ret_flt, ret_slc, ret_str, ret_ptr, ret_agg, ret_tup, ob_some, bb_true, bb_false, List.getElem?_cons_zero, List.getElem?_cons_succ, List.length_cons, List.length_nil, Nat.reduceAdd, Nat.reduceLT]
  refine Evp.neb (fun h1 => Evp.ret (bad fun e => h1 e.1)) fun h1 => ?_
  have hs := checkS_len' h1
  refine Evp.ob (sizes_ok ..) ?_
  rintro _ rfl
  simp only [ret_int, ret_bool, ret_flt, ret_slc, ret_str, ret_ptr, ret_agg, ret_tup, ob_some, bb_true, bb_false, List.getElem?_cons_zero, List.getElem?_cons_succ, List.length_cons, List.length_nil, Nat.reduceAdd, Nat.reduceLT]
  refine Evp.nb (fun h2 => Evp.ret (bad fun e => by have := of_decide_eq_false h2; omega)) fun h2 => ?_
  have h2 := of_decide_eq_true h2
  refine Evp.dec (fun h3 => Evp.ret (bad fun e => by omega)) fun h3 => ?_
  refine Evp.dec (fun h4 => Evp.ret (bad fun e => by omega)) fun h4 => ?_
  obtain ⟨w, rfl⟩ := Int.eq_ofNat_of_zero_le (a := w) (by omega)
  obtain ⟨h, rfl⟩ := Int.eq_ofNat_of_zero_le (a := h) (by omega)
  obtain ⟨W, rfl⟩ := Int.eq_ofNat_of_zero_le (a := W) (by omega)
  obtain ⟨H, rfl⟩ := Int.eq_ofNat_of_zero_le (a := H) (by omega)
  have hnn : xs.length = w * h := by have := hs.2.2.2.2; rw [← Int.natCast_mul] at this; omega
  refine Evp.ob (sized_ok lo w h W H A c xs M hlo hr hc hnn (by omega) (by omega) (by omega) (by omega)) ?_
  rintro _ ⟨a, M', rfl, hp, hb⟩
  simp only [ret_int, ret_bool, ret_flt, ret_slc, ret_str, ret_ptr, ret_agg, ret_tup, ob_some, bb_true, bb_false, List.getElem?_cons_zero, List.getElem?_cons_succ, List.length_cons, List.length_nil, Nat.reduceAdd, Nat.reduceLT]
  refine Evp.ret (Run.ret ⟨hp, ?_⟩)
  rw [if_pos ⟨h1, by omega, by omega, by omega, by omega⟩]
  exact ⟨a, rfl, hb⟩
end Go.Zt
