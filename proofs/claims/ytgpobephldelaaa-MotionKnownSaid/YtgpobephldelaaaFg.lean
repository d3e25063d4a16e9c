/- The document's answer: taps, a block between samples. -/
import Derived.Test.YtgpobephldelaaaFf
set_option linter.unusedVariables false
set_option linter.unusedSimpArgs false
namespace Go.Zt
theorem half_ok (lo : Nat) (kind at_ : Int) (M : Mem) (h1 : 0 ≤ at_ ∧ at_ ≤ 8) (h2 : kind = 0 ∨ kind = 1) : Ac P T lo F.zoetroperef14_half [.int .i64 kind, .int .i64 at_] M fun r => r = (.agg ⟨(rowT (if kind = 0 then sharpL else softL) at_.toNat).map (Value.int .i64)⟩, M) := by
  refine Ac.of (Evp.of_eq (fun k => zoetroperef14_half.entry k ..) ?_)
  have el : softL.length = 72 := rfl
  have el' : sharpL.length = 72 := rfl
  refine Evp.eqb (fun h => ?_) fun h => ?_
  · refine Evp.pos (by omega) ?_
    refine Evp.some (tab_get softL _ (by omega)) ?_
    refine Evp.some (tab_get softL _ (by omega)) ?_
    refine Evp.some (tab_get softL _ (by omega)) ?_
    refine Evp.some (tab_get softL _ (by omega)) ?_
    refine Evp.some (tab_get softL _ (by omega)) ?_
    refine Evp.some (tab_get softL _ (by omega)) ?_
    refine Evp.some (tab_get softL _ (by omega)) ?_
    refine Evp.some (tab_get softL _ (by omega)) ?_
    exact Evp.ret (Run.ret (by rw [if_neg (by omega), rowT_map]))
  · refine Evp.pos (by omega) ?_
    refine Evp.some (tab_get sharpL _ (by omega)) ?_
    refine Evp.some (tab_get sharpL _ (by omega)) ?_
    refine Evp.some (tab_get sharpL _ (by omega)) ?_
    refine Evp.some (tab_get sharpL _ (by omega)) ?_
    refine Evp.some (tab_get sharpL _ (by omega)) ?_
    refine Evp.some (tab_get sharpL _ (by omega)) ?_
    refine Evp.some (tab_get sharpL _ (by omega)) ?_
    refine Evp.some (tab_get sharpL _ (by omega)) ?_
    exact Evp.ret (Run.ret (by rw [if_pos (by omega), rowT_map]))
theorem rtaps_loop (lo : Nat) (l : List Int) (hl : l.length = 8) (M : Mem) : ∀ (d i : Nat), 8 - i = d → i ≤ 8 →
    Run P T lo F.zoetroperef14_Taps (zoetroperef14_Taps.c2036 i 0 0 0 0 0 0 0 0 (l.getD 0 0) (l.getD 1 0) (l.getD 2 0) (l.getD 3 0) (l.getD 4 0) (l.getD 5 0) (l.getD 6 0) (l.getD 7 0) ((fillL8 (fun q => l.getD (7 - q) 0) 8 i).map (Value.int .i64)) M) fun r => r = (.tuple ⟨[.agg ⟨l.reverse.map (Value.int .i64)⟩, .int .i64 0]⟩, M) := by
  intro d
  induction d with
  | zero =>
    intro i hd hi
    obtain rfl : i = 8 := by omega
    refine Run.cut (Evp.of_eq (fun k => zoetroperef14_Taps.p2036 k ..) ?_)
    refine Evp.dec (fun h => absurd h (by omega)) fun _ => ?_
    have e : fillL8 (fun q => l.getD (7 - q) 0) 8 8 = l.reverse := by
      rw [fillL8_full]
      apply ext_getD
      · simp [hl]
      · intro q hq
        simp at hq
        rw [getD_map_range hq, getD_rev (by omega), hl]
    rw [e]
    have hr : l.reverse.length = 8 := by simp [hl]
    refine Evp.some (tab_get l.reverse 0 (by omega)) ?_
    refine Evp.some (tab_get l.reverse 1 (by omega)) ?_
    refine Evp.some (tab_get l.reverse 2 (by omega)) ?_
    refine Evp.some (tab_get l.reverse 3 (by omega)) ?_
    refine Evp.some (tab_get l.reverse 4 (by omega)) ?_
    refine Evp.some (tab_get l.reverse 5 (by omega)) ?_
    refine Evp.some (tab_get l.reverse 6 (by omega)) ?_
    refine Evp.some (tab_get l.reverse 7 (by omega)) ?_
    exact Evp.ret (Run.ret (by rw [list8 _ hr]))
  | succ d ih =>
    intro i hd hi
    refine Run.cut (Evp.of_eq (fun k => zoetroperef14_Taps.p2036 k ..) ?_)
    refine Evp.dec (fun _ => ?_) fun h => absurd h (by omega)
    rw [w64 (x := 7 - (i : Int)) (by omega), w64 (by omega)]
    refine Evp.pos (by omega) ?_
    rw [← list8 l hl]
    refine Evp.some (b := l.getD (7 - i) 0) (by
      rw [show 0 + ((7 - (i : Int)).toNat) + 0 = 7 - i by omega]
      exact tab_get l _ (by omega)) ?_
    refine Evp.pos (by omega) (Evp.pos (by simp [fillL8_len]; omega) ?_)
    rw [show 0 + ((i : Int)).toNat = i by omega, setL_one, set_map, fillL8_set (fun q => l.getD (7 - q) 0) 8 i (by omega)]
    exact Evp.ret (ih (i + 1) (by omega) (by omega))
theorem rtaps_ok (lo : Nat) (kind at_ : Int) (M : Mem) : Ac P T lo F.zoetroperef14_Taps [.int .i64 kind, .int .i64 at_] M fun r => r = (.tuple ⟨[.agg ⟨(tapsS kind at_).map (Value.int .i64)⟩, .int .i64 (tapsE kind at_)]⟩, M) := by
  refine Ac.of (Evp.of_eq (fun k => zoetroperef14_Taps.entry k ..) ?_)
  refine Evp.dec (fun h => ?_) fun h1 => ?_
  · obtain ⟨e1, e2⟩ := tapsS_bad (kind := kind) (at_ := at_) (by omega)
    rw [e1, e2]; exact Evp.ret (Run.ret rfl)
  refine Evp.dec (fun h => ?_) fun h2 => ?_
  · obtain ⟨e1, e2⟩ := tapsS_bad (kind := kind) (at_ := at_) (by omega)
    rw [e1, e2]; exact Evp.ret (Run.ret rfl)
  refine Evp.dec (fun h => ?_) fun h3 => ?_
  · obtain ⟨e1, e2⟩ := tapsS_bad (kind := kind) (at_ := at_) (by omega)
    rw [e1, e2]; exact Evp.ret (Run.ret rfl)
  refine Evp.dec (fun h => ?_) fun h4 => ?_
  · obtain ⟨e1, e2⟩ := tapsS_bad (kind := kind) (at_ := at_) (by omega)
    rw [e1, e2]; exact Evp.ret (Run.ret rfl)
  rw [tapsE_ok (by omega)]
  refine Evp.eqb (fun h5 => ?_) fun h5 => ?_
  · subst h5
    rw [w64 (x := 8 * at_) (by omega), w64 (by omega)]
    refine Evp.ret (Run.ret ?_)
    unfold tapsS
    rw [if_neg (by omega), if_pos rfl]; rfl
  refine Evp.dec (fun h6 => ?_) fun h6 => ?_
  · refine Evp.ob (half_ok _ _ _ _ (by omega) (by omega)) ?_
    rintro _ rfl
    rw [list8 _ (show (rowT (if kind = 0 then sharpL else softL) at_.toNat).length = 8 from rfl)]
    simp only [ret_int, ret_bool, ret_flt, ret_slc, ret_str, ret_ptr, ret_agg, ret_tup, ob_some, bb_true, bb_false, List.getElem?_cons_zero, List.getElem?_cons_succ, List.length_cons, List.length_nil, Nat.reduceAdd, Nat.reduceLT]
    refine Evp.ret (Run.ret ?_)
    have e : tapsS kind at_ = rowT (if kind = 0 then sharpL else softL) at_.toNat := by
      unfold tapsS
      rw [if_neg (by omega), if_neg h5, if_pos (by omega)]
    rw [e, list8 _ (show (rowT (if kind = 0 then sharpL else softL) at_.toNat).length = 8 from rfl)]
  · rw [w64 (by omega)]
    refine Evp.ob (half_ok _ _ _ _ (by omega) (by omega)) ?_
    rintro _ rfl
    rw [list8 _ (show (rowT (if kind = 0 then sharpL else softL) (16 - at_).toNat).length = 8 from rfl)]
    simp only [ret_int, ret_bool, ret_flt, ret_slc, ret_str, ret_ptr, ret_agg, ret_tup, ob_some, bb_true, bb_false, List.getElem?_cons_zero, List.getElem?_cons_succ, List.length_cons, List.length_nil, Nat.reduceAdd, Nat.reduceLT]
    have := rtaps_loop lo (rowT (if kind = 0 then sharpL else softL) (16 - at_).toNat) rfl M 8 0 rfl (by omega)
    have e : tapsS kind at_ = (rowT (if kind = 0 then sharpL else softL) (16 - at_).toNat).reverse := by
      unfold tapsS
      rw [if_neg (by omega), if_neg h5, if_neg (by omega)]
    rw [e]
    exact Evp.ret this

section
variable {lo : Nat} {M0 : Mem} {A : Option Addr} {c : Nat} {xs : List Int} {w h x y : Int} {bw bh : Nat} {ta td : List Int}
abbrev midF (w h : Int) (xs ta : List Int) (x y : Int) (bw : Nat) : Nat → Int := fun q => rowS w h xs ta x y (q / bw) (q % bw)
theorem midF_at {j i : Nat} (hi : i < bw) : midF w h xs ta x y bw (j * bw + i) = rowS w h xs ta x y j i := by
  unfold midF
  rw [show (j * bw + i) / bw = j by rw [Nat.mul_comm, Nat.mul_add_div (by omega), Nat.div_eq_of_lt hi]; omega, show (j * bw + i) % bw = i by rw [Nat.mul_comm, Nat.mul_add_mod, Nat.mod_eq_of_lt hi]]

theorem rk_loop (hG : Given lo M0 A c xs w h x y bw bh ta td) {Q : Value × Mem → Prop} (bm N o j i : Nat) (M : Mem) (hp : Pre M0 M) (ho : (o : Int) = clipS (y / 16 + j - 3) 0 (h - 1) * w) (hj : j < bh + 7) (hi : i < bw) (hN : N = bw * (bh + 7)) (cells : List Value) (hb : M[bm]? = some ⟨.fx, cells⟩) (hcl : cells.length = N) (hbm : M0.length ≤ bm)
    (hnext : Run P T lo F.zoetroperef14_Fetch (zoetroperef14_Fetch.c129612 x y bw bh (some ⟨bm, 0, none⟩) N N j o ((i + 1 : Nat) : Int) w h A xs.length c (ta.getD 0 0) (ta.getD 1 0) (ta.getD 2 0) (ta.getD 3 0) (ta.getD 4 0) (ta.getD 5 0) (ta.getD 6 0) (ta.getD 7 0) (td.getD 0 0) (td.getD 1 0) (td.getD 2 0) (td.getD 3 0) (td.getD 4 0) (td.getD 5 0) (td.getD 6 0) (td.getD 7 0) (M.set bm ⟨.fx, cells.set (j * bw + i) (.int .i64 (rowS w h xs ta x y j i))⟩)) Q) :
    ∀ (d k : Nat), 8 - k = d → k ≤ 8 →
      Run P T lo F.zoetroperef14_Fetch (zoetroperef14_Fetch.c33180820 x y bw bh (some ⟨bm, 0, none⟩) N N j o i (4 + sumT ta (fun k => pixS w h xs (y / 16 + j - 3) (x / 16 + i + k - 3)) k) k w h A xs.length c (ta.getD 0 0) (ta.getD 1 0) (ta.getD 2 0) (ta.getD 3 0) (ta.getD 4 0) (ta.getD 5 0) (ta.getD 6 0) (ta.getD 7 0) (td.getD 0 0) (td.getD 1 0) (td.getD 2 0) (td.getD 3 0) (td.getD 4 0) (td.getD 5 0) (td.getD 6 0) (td.getD 7 0) M) Q := by
  have hs := hG.size
  have hx := hG.x
  have hy := hG.y
  have hbw := hG.bw
  have hbh := hG.bh
  have hlo := hG.lo
  have hsum := fun k => sumT_le (B := 255) hG.ta (p := fun k => pixS w h xs (y / 16 + j - 3) (x / 16 + i + k - 3)) (fun k => by have := pixS_le (w := w) (h := h) hG.bx (y / 16 + j - 3) (x / 16 + i + k - 3); omega) k
  have hji : j * bw + i < N := by
    rw [hN]
    have : j * bw + bw ≤ (bh + 7) * bw := by rw [← Nat.succ_mul]; exact Nat.mul_le_mul_right _ (by omega)
    rw [Nat.mul_comm bw]; omega
  have hNs : N ≤ 64 * 71 := by rw [hN]; exact Nat.mul_le_mul (by omega) (by omega)
  intro d
  induction d with
  | zero =>
    intro k hd hk
    obtain rfl : k = 8 := by omega
    refine Run.cut (Evp.of_eq (fun k => zoetroperef14_Fetch.p33180820 k ..) ?_)
    refine Evp.dec (fun h => absurd h (by omega)) fun _ => ?_
    have e : (j : Int) * bw + i = ((j * bw + i : Nat) : Int) := by simp
    have e1 : (j : Int) * bw = ((j * bw : Nat) : Int) := by simp
    rw [w64 (x := (j : Int) * bw) (by rw [e1]; omega), e, w64 (by omega)]
    refine Evp.pos (by omega) (Evp.some rfl ?_)
    simp only [Int.toNat_natCast]
    refine Evp.some (fx_st hb (by omega) (by omega)) ?_
    rw [shr_eq 3 (by omega), w64 (x := (i : Int) + 1) (by omega)]
    exact Evp.ret hnext
  | succ d ih =>
    intro k hd hk
    refine Run.cut (Evp.of_eq (fun k => zoetroperef14_Fetch.p33180820 k ..) ?_)
    refine Evp.dec (fun _ => ?_) fun h => absurd h (by omega)
    refine Evp.pos (by omega) ?_
    rw [← list8 ta hG.ta.1]
    refine Evp.some (b := ta.getD k 0) (by
      rw [show 0 + ((k : Int)).toNat + 0 = k by omega]
      exact tab_get ta k (by rw [hG.ta.1]; omega)) ?_
    rw [shr_eq 4 (by omega), w64 (x := x / 2 ^ 4 + i) (by omega), w64 (x := x / 2 ^ 4 + i + k) (by omega), w64 (x := x / 2 ^ 4 + i + k - 3) (by omega), w64 (x := w - 1) (by omega)]
    refine Evp.ob (clip_ok ..) ?_
    rintro _ rfl
    simp only [ret_int, ret_bool, ret_flt, ret_slc, ret_str, ret_ptr, ret_agg, ret_tup, ob_some, bb_true, bb_false, List.getElem?_cons_zero, List.getElem?_cons_succ, List.length_cons, List.length_nil, Nat.reduceAdd, Nat.reduceLT]
    have hcl1 := clipS_le (v := x / 2 ^ 4 + i + k - 3) (a := 0) (b := w - 1) (by omega)
    have hcy := clipS_le (v := y / 16 + j - 3) (a := 0) (b := h - 1) (by omega)
    have h1 : clipS (y / 16 + j - 3) 0 (h - 1) * w ≤ (h - 1) * w := Int.mul_le_mul_of_nonneg_right hcy.2 (by omega)
    have h2 : (h - 1) * w = w * h - w := by rw [Int.sub_mul, Int.mul_comm h w]; omega
    have hn := hG.n
    have har := area (w := w) (h := h) hs
    rw [w64 (x := (o : Int) + clipS (x / 2 ^ 4 + i + k - 3) 0 (w - 1)) (by omega)]
    refine Evp.pos (by omega) ?_
    refine Evp.ldI (hG.rd.pre hp) (by omega) fun a _ => ?_
    have hpx : xs.getD ((o : Int) + clipS (x / 2 ^ 4 + i + k - 3) 0 (w - 1)).toNat 0 = pixS w h xs (y / 16 + j - 3) (x / 16 + i + k - 3) := by
      unfold pixS; rw [← ho]; rfl
    rw [hpx]
    have hpl := pixS_le (w := w) (h := h) hG.bx (y / 16 + j - 3) (x / 16 + i + k - 3)
    have hm := mul_abs (hG.ta.2 k) (B := 255) (b := pixS w h xs (y / 16 + j - 3) (x / 16 + i + k - 3)) (by omega)
    have hsk := hsum k
    rw [w64 (x := pixS w h xs (y / 16 + j - 3) (x / 16 + i + k - 3)) (by omega), w64 (x := ta.getD k 0 * pixS w h xs (y / 16 + j - 3) (x / 16 + i + k - 3)) (by omega), w64 (by omega), w64 (x := (k : Int) + 1) (by omega)]
    have := ih (k + 1) (by omega) (by omega)
    simp only [sumT, ← Int.add_assoc] at this
    exact Evp.ret this

theorem ri_loop (hG : Given lo M0 A c xs w h x y bw bh ta td) {Q : Value × Mem → Prop} (bm N o j : Nat) (M1 : Mem) (hp : Pre M0 M1) (ho : (o : Int) = clipS (y / 16 + j - 3) 0 (h - 1) * w) (hj : j < bh + 7) (hN : N = bw * (bh + 7)) (hbm : M0.length ≤ bm)
    (hnext : ∀ M, KeepB bm M1 M → M[bm]? = some ⟨.fx, (fillL8 (midF w h xs ta x y bw) N ((j + 1) * bw)).map (Value.int .i64)⟩ → Run P T lo F.zoetroperef14_Fetch (zoetroperef14_Fetch.c1012 x y bw bh (some ⟨bm, 0, none⟩) N N ((j + 1 : Nat) : Int) w h A xs.length c (ta.getD 0 0) (ta.getD 1 0) (ta.getD 2 0) (ta.getD 3 0) (ta.getD 4 0) (ta.getD 5 0) (ta.getD 6 0) (ta.getD 7 0) (td.getD 0 0) (td.getD 1 0) (td.getD 2 0) (td.getD 3 0) (td.getD 4 0) (td.getD 5 0) (td.getD 6 0) (td.getD 7 0) M) Q) :
    ∀ (d i : Nat) (M : Mem), bw - i = d → i ≤ bw → KeepB bm M1 M → M[bm]? = some ⟨.fx, (fillL8 (midF w h xs ta x y bw) N (j * bw + i)).map (Value.int .i64)⟩ →
      Run P T lo F.zoetroperef14_Fetch (zoetroperef14_Fetch.c129612 x y bw bh (some ⟨bm, 0, none⟩) N N j o i w h A xs.length c (ta.getD 0 0) (ta.getD 1 0) (ta.getD 2 0) (ta.getD 3 0) (ta.getD 4 0) (ta.getD 5 0) (ta.getD 6 0) (ta.getD 7 0) (td.getD 0 0) (td.getD 1 0) (td.getD 2 0) (td.getD 3 0) (td.getD 4 0) (td.getD 5 0) (td.getD 6 0) (td.getD 7 0) M) Q := by
  have hbw := hG.bw
  have hbh := hG.bh
  intro d
  induction d with
  | zero =>
    intro i M hd hi hk hb
    obtain rfl : i = bw := by omega
    refine Run.cut (Evp.of_eq (fun k => zoetroperef14_Fetch.p129612 k ..) ?_)
    refine Evp.dec (fun h => absurd h (by omega)) fun _ => ?_
    rw [w64 (by omega)]
    exact Evp.ret (hnext M hk (by rw [Nat.succ_mul]; exact hb))
  | succ d ih =>
    intro i M hd hi hk hb
    refine Run.cut (Evp.of_eq (fun k => zoetroperef14_Fetch.p129612 k ..) ?_)
    refine Evp.dec (fun _ => ?_) fun h => absurd h (by omega)
    have hji : j * bw + i < N := by
      rw [hN]
      have : j * bw + bw ≤ (bh + 7) * bw := by rw [← Nat.succ_mul]; exact Nat.mul_le_mul_right _ (by omega)
      rw [Nat.mul_comm bw]; omega
    have := rk_loop hG (Q := Q) bm N o j i M (hk.pre hp hbm) ho hj (by omega) hN _ hb (by simp [fillL8_len]) hbm (by
      refine ih (i + 1) _ (by omega) (by omega) (hk.trans (KeepB.set _ _ _)) ?_
      rw [set_self (lt_of_get hb), set_map, ← midF_at (w := w) (h := h) (xs := xs) (ta := ta) (x := x) (y := y) (bw := bw) (j := j) (i := i) (by omega), fillL8_set _ _ _ hji]
      rfl) 8 0 rfl (by omega)
    exact Evp.ret this

theorem rj_loop (hG : Given lo M0 A c xs w h x y bw bh ta td) {Q : Value × Mem → Prop} (bm N : Nat) (M1 : Mem) (hp : Pre M0 M1) (hN : N = bw * (bh + 7)) (hbm : M0.length ≤ bm)
    (hnext : ∀ M, KeepB bm M1 M → M[bm]? = some ⟨.fx, ((List.range N).map (midF w h xs ta x y bw)).map (Value.int .i64)⟩ → Run P T lo F.zoetroperef14_Fetch (zoetroperef14_Fetch.c4084 bw bh (some ⟨bm, 0, none⟩) N N none 0 0 0 (td.getD 0 0) (td.getD 1 0) (td.getD 2 0) (td.getD 3 0) (td.getD 4 0) (td.getD 5 0) (td.getD 6 0) (td.getD 7 0) M) Q) :
    ∀ (d j : Nat) (M : Mem), bh + 7 - j = d → j ≤ bh + 7 → KeepB bm M1 M → M[bm]? = some ⟨.fx, (fillL8 (midF w h xs ta x y bw) N (j * bw)).map (Value.int .i64)⟩ →
      Run P T lo F.zoetroperef14_Fetch (zoetroperef14_Fetch.c1012 x y bw bh (some ⟨bm, 0, none⟩) N N j w h A xs.length c (ta.getD 0 0) (ta.getD 1 0) (ta.getD 2 0) (ta.getD 3 0) (ta.getD 4 0) (ta.getD 5 0) (ta.getD 6 0) (ta.getD 7 0) (td.getD 0 0) (td.getD 1 0) (td.getD 2 0) (td.getD 3 0) (td.getD 4 0) (td.getD 5 0) (td.getD 6 0) (td.getD 7 0) M) Q := by
  have hs := hG.size
  have hy := hG.y
  have hbw := hG.bw
  have hbh := hG.bh
  intro d
  induction d with
  | zero =>
    intro j M hd hj hk hb
    obtain rfl : j = bh + 7 := by omega
    refine Run.cut (Evp.of_eq (fun k => zoetroperef14_Fetch.p1012 k ..) ?_)
    rw [w64 (x := (bh : Int) + 7) (by omega)]
    refine Evp.dec (fun h => absurd h (by omega)) fun _ => ?_
    rw [Nat.mul_comm, ← hN, fillL8_full] at hb
    exact Evp.ret (hnext M hk hb)
  | succ d ih =>
    intro j M hd hj hk hb
    refine Run.cut (Evp.of_eq (fun k => zoetroperef14_Fetch.p1012 k ..) ?_)
    rw [w64 (x := (bh : Int) + 7) (by omega)]
    refine Evp.dec (fun _ => ?_) fun h => absurd h (by omega)
    rw [shr_eq 4 (by omega), w64 (x := y / 2 ^ 4 + j) (by omega), w64 (x := y / 2 ^ 4 + j - 3) (by omega), w64 (x := h - 1) (by omega)]
    refine Evp.ob (clip_ok ..) ?_
    rintro _ rfl
    simp only [ret_int, ret_bool, ret_flt, ret_slc, ret_str, ret_ptr, ret_agg, ret_tup, ob_some, bb_true, bb_false, List.getElem?_cons_zero, List.getElem?_cons_succ, List.length_cons, List.length_nil, Nat.reduceAdd, Nat.reduceLT]
    have hcl := clipS_le (v := y / 2 ^ 4 + j - 3) (a := 0) (b := h - 1) (by omega)
    have h1 : clipS (y / 2 ^ 4 + j - 3) 0 (h - 1) * w ≤ (h - 1) * w := Int.mul_le_mul_of_nonneg_right hcl.2 (by omega)
    have h2 : (h - 1) * w = w * h - w := by rw [Int.sub_mul, Int.mul_comm h w]; omega
    have h0 : 0 ≤ clipS (y / 2 ^ 4 + j - 3) 0 (h - 1) * w := Int.mul_nonneg hcl.1 (by omega)
    have har := area (w := w) (h := h) hs
    rw [w64 (x := clipS (y / 2 ^ 4 + j - 3) 0 (h - 1) * w) (by omega)]
    obtain ⟨o, ho⟩ : ∃ o : Nat, (o : Int) = clipS (y / 2 ^ 4 + j - 3) 0 (h - 1) * w := ⟨(clipS (y / 2 ^ 4 + j - 3) 0 (h - 1) * w).toNat, by omega⟩
    rw [← ho]
    exact Evp.ret (ri_loop hG bm N o j M1 hp ho (by omega) hN hbm (fun M' k1 k2 => ih (j + 1) M' (by omega) (by omega) k1 k2) bw 0 M rfl (by omega) hk hb)
end
end Go.Zt
