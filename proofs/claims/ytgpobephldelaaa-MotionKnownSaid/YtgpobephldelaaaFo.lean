/- A block further on is a block moved; what is blended lies between. -/
import Derived.Test.YtgpobephldelaaaFn
set_option linter.unusedVariables false
set_option linter.unusedSimpArgs false
set_option maxRecDepth 100000
namespace Go.Zt
theorem may_ok (lo : Nat) (a b c d e f g h : Int) (M : Mem) : Ac P T lo F.zoetropelaw15_may [.agg ⟨[.int .i64 a, .int .i64 b, .int .i64 c, .int .i64 d, .int .i64 e, .int .i64 f, .int .i64 g, .int .i64 h]⟩] M fun r =>
    ∃ n x y w v vx vy k : Int, r = (.agg ⟨[.int .i64 n, .int .i64 x, .int .i64 y, .int .i64 w, .int .i64 v, .int .i64 vx, .int .i64 vy, .int .i64 k]⟩, M) ∧ (0 ≤ n ∧ n ≤ 2) ∧ (0 ≤ x ∧ x < 60) ∧ (0 ≤ y ∧ y < 60) ∧ (4 ≤ w ∧ w ≤ 32) ∧ (4 ≤ v ∧ v ≤ 32) ∧ (-4095 ≤ vx ∧ vx ≤ 4095) ∧ (-4095 ≤ vy ∧ vy ≤ 4095) ∧ (0 ≤ k ∧ k ≤ 2) := by
  refine Ac.of (Evp.of_eq (fun k => zoetropelaw15_may.entry k ..) ?_)
  refine Evp.ob (bring_ok _ _ _ _ (by omega)) ?_
  rintro _ rfl
  simp only [ret_int, ret_bool, ret_flt, ret_slc, ret_str, ret_ptr, ret_agg, ret_tup, ob_some, bb_true, bb_false, List.getElem?_cons_zero, List.getElem?_cons_succ, List.length_cons, List.length_nil, Nat.reduceAdd, Nat.reduceLT]
  refine Evp.ob (bring_ok _ _ _ _ (by omega)) ?_
  rintro _ rfl
  simp only [ret_int, ret_bool, ret_flt, ret_slc, ret_str, ret_ptr, ret_agg, ret_tup, ob_some, bb_true, bb_false, List.getElem?_cons_zero, List.getElem?_cons_succ, List.length_cons, List.length_nil, Nat.reduceAdd, Nat.reduceLT]
  refine Evp.ob (bring_ok _ _ _ _ (by omega)) ?_
  rintro _ rfl
  simp only [ret_int, ret_bool, ret_flt, ret_slc, ret_str, ret_ptr, ret_agg, ret_tup, ob_some, bb_true, bb_false, List.getElem?_cons_zero, List.getElem?_cons_succ, List.length_cons, List.length_nil, Nat.reduceAdd, Nat.reduceLT]
  refine Evp.ob (bring_ok _ _ _ _ (by omega)) ?_
  rintro _ rfl
  simp only [ret_int, ret_bool, ret_flt, ret_slc, ret_str, ret_ptr, ret_agg, ret_tup, ob_some, bb_true, bb_false, List.getElem?_cons_zero, List.getElem?_cons_succ, List.length_cons, List.length_nil, Nat.reduceAdd, Nat.reduceLT]
  refine Evp.ob (bring_ok _ _ _ _ (by omega)) ?_
  rintro _ rfl
  simp only [ret_int, ret_bool, ret_flt, ret_slc, ret_str, ret_ptr, ret_agg, ret_tup, ob_some, bb_true, bb_false, List.getElem?_cons_zero, List.getElem?_cons_succ, List.length_cons, List.length_nil, Nat.reduceAdd, Nat.reduceLT]
  refine Evp.ob (bring_ok _ _ _ _ (by omega)) ?_
  rintro _ rfl
  simp only [ret_int, ret_bool, ret_flt, ret_slc, ret_str, ret_ptr, ret_agg, ret_tup, ob_some, bb_true, bb_false, List.getElem?_cons_zero, List.getElem?_cons_succ, List.length_cons, List.length_nil, Nat.reduceAdd, Nat.reduceLT]
  refine Evp.ob (bring_ok _ _ _ _ (by omega)) ?_
  rintro _ rfl
  simp only [ret_int, ret_bool, ret_flt, ret_slc, ret_str, ret_ptr, ret_agg, ret_tup, ob_some, bb_true, bb_false, List.getElem?_cons_zero, List.getElem?_cons_succ, List.length_cons, List.length_nil, Nat.reduceAdd, Nat.reduceLT]
  refine Evp.ob (bring_ok _ _ _ _ (by omega)) ?_
  rintro _ rfl
  simp only [ret_int, ret_bool, ret_flt, ret_slc, ret_str, ret_ptr, ret_agg, ret_tup, ob_some, bb_true, bb_false, List.getElem?_cons_zero, List.getElem?_cons_succ, List.length_cons, List.length_nil, Nat.reduceAdd, Nat.reduceLT]
  have b1 := bringS_lt (i := a) (n := 3) (by omega)
  have b2 := bringS_lt (i := h) (n := 3) (by omega)
  have b3 := bringS_lt (i := b) (n := 60) (by omega)
  have b4 := bringS_lt (i := c) (n := 60) (by omega)
  have b5 := bringS_lt (i := d) (n := 29) (by omega)
  have b6 := bringS_lt (i := e) (n := 29) (by omega)
  have b7 := bringS_lt (i := f) (n := 8191) (by omega)
  have b8 := bringS_lt (i := g) (n := 8191) (by omega)
  rw [w64 (x := 4 + bringS d 29) (by omega), w64 (x := 4 + bringS e 29) (by omega), w64 (x := bringS f 8191 - 4095) (by omega), w64 (x := bringS g 8191 - 4095) (by omega)]
  exact Evp.ret (Run.ret ⟨_, _, _, _, _, _, _, _, rfl, by omega, by omega, by omega, by omega, by omega, by omega, by omega, by omega⟩)
theorem tdiv_le {v B : Int} (k : Int) (hk : 1 ≤ k) (h : -B ≤ v ∧ v ≤ B) : -B ≤ Int.tdiv v k ∧ Int.tdiv v k ≤ B := by
  have h1 : (Int.tdiv v k).natAbs ≤ v.natAbs := by rw [Int.natAbs_tdiv]; exact Nat.div_le_self _ _
  omega
theorem tdiv2_le {v : Int} (h : -4095 ≤ v ∧ v ≤ 4095) : -2047 ≤ Int.tdiv v 2 ∧ Int.tdiv v 2 ≤ 2047 := by
  have h1 : (Int.tdiv v 2).natAbs = v.natAbs / 2 := by rw [Int.natAbs_tdiv]; rfl
  omega
section
variable {w0 h0 w1 h1 w2 h2 : Int} {xs ys zs : List Int} {n x y w h vx vy kind : Int}
theorem single_q (hw : WholeP w0 h0 xs.length w1 h1 ys.length w2 h2 zs.length) (hn : 0 ≤ n ∧ n ≤ 2) (hx : 0 ≤ x ∧ x ≤ 1024) (hy : 0 ≤ y ∧ y ≤ 1024) (hW : 4 ≤ w ∧ w ≤ 64) (hH : 4 ≤ h ∧ h ≤ 64) (hvx : -4095 ≤ vx ∧ vx ≤ 4095) (hvy : -4095 ≤ vy ∧ vy ≤ 4095) (hk : 0 ≤ kind ∧ kind ≤ 2) :
    SingleOk w0 h0 xs.length w1 h1 ys.length w2 h2 zs.length n x y w h vx vy ∧ FetchOk (pk n w0 w1 w2) (pk n h0 h1 h2) (pk n xs ys zs).length (16 * x + byS n * vx) (16 * y + byS n * vy) w h kind := by
  refine ⟨⟨hw, hn, hx, hy, hW, hH, hvx, hvy⟩, ?_⟩
  have hc : checkS (pk n w0 w1 w2) (pk n h0 h1 h2) (pk n xs ys zs).length = 0 := by
    obtain ⟨k0, _, _, k1, _, _, k2, _, _⟩ := hw
    unfold pk
    split
    · exact k0
    · split
      · exact k1
      · exact k2
  have hb : byS n = 1 ∨ byS n = 2 := by unfold byS; split <;> omega
  unfold FetchOk
  refine ⟨hc, ?_⟩
  rcases hb with hb | hb <;> rw [hb] <;> omega
theorem singleL_len : (singleL w0 h0 w1 h1 w2 h2 xs ys zs n x y w h vx vy kind).length = h.toNat * w.toNat := fetchS_len ..
theorem SingleR.yes {M : Mem} {r : Value × Mem} (hr : SingleR w0 h0 w1 h1 w2 h2 xs ys zs n x y w h vx vy kind M r)
    (hq : SingleOk w0 h0 xs.length w1 h1 ys.length w2 h2 zs.length n x y w h vx vy ∧ FetchOk (pk n w0 w1 w2) (pk n h0 h1 h2) (pk n xs ys zs).length (16 * x + byS n * vx) (16 * y + byS n * vy) w h kind) :
    ∃ (B : Option Addr) (cc : Nat) (M' : Mem), r = (.tuple ⟨[.slice B (singleL w0 h0 w1 h1 w2 h2 xs ys zs n x y w h vx vy kind).length cc, .int .i64 0]⟩, M') ∧ Pre M M' ∧ OwnM M M' B (singleL w0 h0 w1 h1 w2 h2 xs ys zs n x y w h vx vy kind) := by
  obtain ⟨l, e, B, cc, M', rfl, p, _, o, _, q, hqd, el, ee, qi⟩ := hr.cases
  rw [if_pos (qi.2 hq)] at el ee
  subst el; subst ee
  exact ⟨B, cc, M', rfl, p, o⟩
end
theorem further_eq {w0 h0 w1 h1 w2 h2 : Int} {xs ys zs : List Int} {n x y w h vx vy kind : Int} (u dx dy : Int) (hu : byS n * u = 16) :
    singleL w0 h0 w1 h1 w2 h2 xs ys zs n x y w h (vx + u * dx) (vy + u * dy) kind = singleL w0 h0 w1 h1 w2 h2 xs ys zs n (x + dx) (y + dy) w h vx vy kind := by
  have e : ∀ x v d : Int, 16 * x + byS n * (v + u * d) = 16 * (x + d) + byS n * v := fun x v d => by
    rw [Int.mul_add, ← Int.mul_assoc, hu, Int.mul_add]; omega
  unfold singleL
  rw [e, e]
theorem MotionFurther_law (M : Mem) (vs : List Value) (hro : AllRo M) (hv : LaysArgs P M [27, 33, 54] vs) : Ac P T M.length F.zoetropelaw15_MotionFurther vs M fun r => r.1 = .bool true := by
  obtain ⟨w0, h0, A0, c0, xs, w1, h1, A1, c1, ys, w2, h2, A2, c2, zs, a, b, c, d, e, f, g, i, p, q, rfl, _, _, k0, n0, hx, wx, _, _, k1, n1, hy, wy, _, _, k2, n2, hz, wz, _⟩ := Arg.MotionFurther hv
  have bx : Bytes xs := fun x hx => wf_u8 (wx x hx)
  have by_ : Bytes ys := fun x hx => wf_u8 (wy x hx)
  have bz : Bytes zs := fun x hx => wf_u8 (wz x hx)
  refine Ac.of (Evp.of_eq (fun k => zoetropelaw15_MotionFurther.entry k ..) ?_)
  refine Evp.ob (works_ok _ _ (Nat.le_refl _)) ?_
  rintro _ ⟨M1, rfl, p1⟩
  simp only [ret_int, ret_bool, ret_flt, ret_slc, ret_str, ret_ptr, ret_agg, ret_tup, ob_some, bb_true, bb_false, List.getElem?_cons_zero, List.getElem?_cons_succ, List.length_cons, List.length_nil, Nat.reduceAdd, Nat.reduceLT]
  refine Evp.ff rfl ?_
  refine Evp.ob (whole_ok ..) ?_
  rintro _ rfl
  simp only [ret_int, ret_bool, ret_flt, ret_slc, ret_str, ret_ptr, ret_agg, ret_tup, ob_some, bb_true, bb_false, List.getElem?_cons_zero, List.getElem?_cons_succ, List.length_cons, List.length_nil, Nat.reduceAdd, Nat.reduceLT]
  refine Evp.neb (fun _ => Evp.ret (Run.ret rfl)) fun hw => ?_
  have hwp : WholeP w0 h0 xs.length w1 h1 ys.length w2 h2 zs.length := by
    by_cases hp : WholeP w0 h0 xs.length w1 h1 ys.length w2 h2 zs.length
    · exact hp
    · rw [wholeS_neg (hw := hp) ..] at hw; exact absurd hw (by decide)
  refine Evp.ob (may_ok ..) ?_
  rintro _ ⟨n, x, y, w, h, vx, vy, k, rfl, bn, b2, b3, b4, b5, b6, b7, b8⟩
  simp only [ret_int, ret_bool, ret_flt, ret_slc, ret_str, ret_ptr, ret_agg, ret_tup, ob_some, bb_true, bb_false, List.getElem?_cons_zero, List.getElem?_cons_succ, List.length_cons, List.length_nil, Nat.reduceAdd, Nat.reduceLT]
  have fin : ∀ u : Int, (u = 8 ∨ u = 16) → byS n * u = 16 → Run P T M.length F.zoetropelaw15_MotionFurther (zoetropelaw15_MotionFurther.c127 u w0 h0 A0 xs.length c0 w1 h1 A1 ys.length c1 w2 h2 A2 zs.length c2 n x y w h vx vy k p q M1) fun r => r.1 = .bool true := fun u hu hbu => by
    refine Run.cut (Evp.of_eq (fun k => zoetropelaw15_MotionFurther.p127 k ..) ?_)
    refine Evp.ob (bring_ok _ _ _ _ (by omega)) ?_
    rintro _ rfl
    simp only [ret_int, ret_bool, ret_flt, ret_slc, ret_str, ret_ptr, ret_agg, ret_tup, ob_some, bb_true, bb_false, List.getElem?_cons_zero, List.getElem?_cons_succ, List.length_cons, List.length_nil, Nat.reduceAdd, Nat.reduceLT]
    refine Evp.ob (bring_ok _ _ _ _ (by omega)) ?_
    rintro _ rfl
    simp only [ret_int, ret_bool, ret_flt, ret_slc, ret_str, ret_ptr, ret_agg, ret_tup, ob_some, bb_true, bb_false, List.getElem?_cons_zero, List.getElem?_cons_succ, List.length_cons, List.length_nil, Nat.reduceAdd, Nat.reduceLT]
    have d1 := bringS_lt (i := p) (n := 40) (by omega)
    have d2 := bringS_lt (i := q) (n := 40) (by omega)
    have t1 := tdiv2_le b6
    have t2 := tdiv2_le b7
    have u1 : 0 ≤ u * bringS p 40 ∧ u * bringS p 40 ≤ 640 := by rcases hu with rfl | rfl <;> omega
    have u2 : 0 ≤ u * bringS q 40 ∧ u * bringS q 40 ≤ 640 := by rcases hu with rfl | rfl <;> omega
    rw [w64 (x := Int.tdiv vx 2) (by omega), w64 (x := Int.tdiv vy 2) (by omega), w64 (x := u * bringS p 40) (by omega), w64 (x := u * bringS q 40) (by omega), w64 (x := Int.tdiv vx 2 + u * bringS p 40) (by omega), w64 (x := Int.tdiv vy 2 + u * bringS q 40) (by omega), w64 (x := x + bringS p 40) (by omega), w64 (x := y + bringS q 40) (by omega)]
    refine Evp.ob (single_ok _ w0 h0 w1 h1 w2 h2 A0 A1 A2 c0 c1 c2 xs ys zs n x y w h _ _ k M1 (hx.pre p1) (hy.pre p1) (hz.pre p1) bx by_ bz k0 k1 k2 p1.len) ?_
    intro r hr
    obtain ⟨B, cc, M2, rfl, p2, o2⟩ := hr.yes (single_q hwp bn (by omega) (by omega) (by omega) (by omega) (by omega) (by omega) b8)
    simp only [ret_int, ret_bool, ret_flt, ret_slc, ret_str, ret_ptr, ret_agg, ret_tup, ob_some, bb_true, bb_false, List.getElem?_cons_zero, List.getElem?_cons_succ, List.length_cons, List.length_nil, Nat.reduceAdd, Nat.reduceLT]
    have q2 := p1.trans p2
    refine Evp.ob (single_ok _ w0 h0 w1 h1 w2 h2 A0 A1 A2 c0 c1 c2 xs ys zs n (x + bringS p 40) (y + bringS q 40) w h _ _ k M2 (hx.pre q2) (hy.pre q2) (hz.pre q2) bx by_ bz k0 k1 k2 q2.len) ?_
    intro r hr
    obtain ⟨B', cc', M3, rfl, p3, o3⟩ := hr.yes (single_q hwp bn (by omega) (by omega) (by omega) (by omega) (by omega) (by omega) b8)
    simp only [ret_int, ret_bool, ret_flt, ret_slc, ret_str, ret_ptr, ret_agg, ret_tup, ob_some, bb_true, bb_false, List.getElem?_cons_zero, List.getElem?_cons_succ, List.length_cons, List.length_nil, Nat.reduceAdd, Nat.reduceLT]
    refine Evp.tt rfl (Evp.tt rfl ?_)
    have ll := singleL_len (w0 := w0) (h0 := h0) (w1 := w1) (h1 := h1) (w2 := w2) (h2 := h2) (xs := xs) (ys := ys) (zs := zs) (n := n) (x := x) (y := y) (w := w) (h := h) (vx := Int.tdiv vx 2 + u * bringS p 40) (vy := Int.tdiv vy 2 + u * bringS q 40) (kind := k)
    have sm : h.toNat * w.toNat ≤ 4096 := small_mul (by omega) (by omega)
    refine Evp.ob (eqBytes_ok _ _ _ _ _ _ _ _ (o2.rd.pre p3) o3.rd (by rw [ll]; omega)) ?_
    rintro _ rfl
    simp only [ret_int, ret_bool, ret_flt, ret_slc, ret_str, ret_ptr, ret_agg, ret_tup, ob_some, bb_true, bb_false, List.getElem?_cons_zero, List.getElem?_cons_succ, List.length_cons, List.length_nil, Nat.reduceAdd, Nat.reduceLT]
    refine Evp.tt (decide_eq_true (further_eq u _ _ hbu)) ?_
    refine Evp.ret (Run.ret ?_)
    rw [ll]
    obtain ⟨w', rfl⟩ := Int.eq_ofNat_of_zero_le (a := w) (by omega)
    obtain ⟨h', rfl⟩ := Int.eq_ofNat_of_zero_le (a := h) (by omega)
    simp only [Int.toNat_natCast] at sm ⊢
    have em : (w' : Int) * (h' : Int) = ((h' * w' : Nat) : Int) := by rw [Int.natCast_mul, Int.mul_comm]
    rw [em, w64 (by omega)]; simp
  refine Evp.eqb (fun e => Evp.ret (fin 8 (.inl rfl) (by unfold byS; rw [if_pos e]; rfl))) fun e => Evp.ret (fin 16 (.inr rfl) (by unfold byS; rw [if_neg e]; rfl))

/-! ### What is blended, place by place -/
theorem dm {q r W : Nat} (h : r < W) : (q * W + r) / W = q ∧ (q * W + r) % W = r := by
  rw [Nat.add_comm]
  exact ⟨by rw [Nat.add_mul_div_right r q (by omega), Nat.div_eq_of_lt h, Nat.zero_add], by rw [Nat.add_mul_mod_self_right, Nat.mod_eq_of_lt h]⟩
def inR (w X Y W H p : Nat) : Prop := X ≤ p % w ∧ p % w < X + W ∧ Y ≤ p / w ∧ p / w < Y + H
instance (w X Y W H p : Nat) : Decidable (inR w X Y W H p) := inferInstanceAs (Decidable (_ ∧ _))
def invR (w X Y W p : Nat) : Nat := (p / w - Y) * W + (p % w - X)
theorem at_inv {w h X Y W H p : Nat} (r : Rect w h X Y W H) (hp : inR w X Y W H p) : atS w X Y W (invR w X Y W p) = p ∧ invR w X Y W p < W * H ∧ invR w X Y W p / W = p / w - Y ∧ invR w X Y W p % W = p % w - X := by
  obtain ⟨h1, h2, h3, h4⟩ := hp
  obtain ⟨d1, d2⟩ := dm (q := p / w - Y) (r := p % w - X) (W := W) (by omega)
  have e := Nat.div_add_mod p w
  rw [Nat.mul_comm] at e
  have hlt : (p / w - Y + 1) * W ≤ H * W := Nat.mul_le_mul_right W (by omega)
  rw [Nat.add_mul, Nat.one_mul, Nat.mul_comm H W] at hlt
  refine ⟨?_, by unfold invR; omega, d1, d2⟩
  unfold atS
  unfold invR at *
  rw [d1, d2, show Y + (p / w - Y) = p / w by omega]
  omega
theorem inv_at {w h X Y W H i : Nat} (r : Rect w h X Y W H) (hi : i < W * H) : inR w X Y W H (atS w X Y W i) ∧ invR w X Y W (atS w X Y W i) = i := by
  obtain ⟨_, h2, h3⟩ := at_lt r hi
  have hx := r.x
  have e0 : atS w X Y W i = (Y + i / W) * w + (X + i % W) := by unfold atS; omega
  obtain ⟨d1, d2⟩ := dm (q := Y + i / W) (r := X + i % W) (W := w) (by omega)
  unfold inR invR
  rw [e0, d1, d2]
  have e := Nat.div_add_mod i W
  rw [Nat.mul_comm] at e
  refine ⟨⟨Nat.le_add_right _ _, Nat.add_lt_add_left h3 _, Nat.le_add_right _ _, Nat.add_lt_add_left h2 _⟩, ?_⟩
  rw [Nat.add_sub_cancel_left, Nat.add_sub_cancel_left]; exact e
theorem bl_get (al : Bool) {own other : List Int} {w h X Y W H : Nat} (r : Rect w h X Y W H) (ho : own.length = h * w) (p : Nat) : ∀ i, i ≤ W * H → (blS al own other w X Y W H i).getD p 0 =
    if inR w X Y W H p ∧ invR w X Y W p < i then mixS (wS (nA al W H) (alS al W (invR w X Y W p))) (own.getD p 0) (other.getD (invR w X Y W p) 0) else own.getD p 0
  | 0, _ => by rw [if_neg (by omega)]; rfl
  | i + 1, hi => by
    have ih := bl_get al (own := own) (other := other) r ho p i (by omega)
    obtain ⟨h1, _⟩ := at_lt r (i := i) (by omega)
    simp only [blS]
    rw [getD_set (by rw [bl_len, ho]; exact h1)]
    by_cases hp : p = atS w X Y W i
    · obtain ⟨g1, g2⟩ := inv_at r (i := i) (by omega)
      rw [← hp] at g1 g2
      rw [if_pos hp, if_pos ⟨g1, by omega⟩, g2, ← hp, ih, if_neg (by omega)]
    · rw [if_neg hp, ih]
      by_cases hr : inR w X Y W H p
      · have := (at_inv r hr).1
        have hne : invR w X Y W p ≠ i := fun e => hp (by rw [← e]; exact this.symm)
        by_cases hlt : invR w X Y W p < i
        · rw [if_pos ⟨hr, hlt⟩, if_pos ⟨hr, by omega⟩]
        · rw [if_neg (fun e => hlt e.2), if_neg (fun e => by have := e.2; omega)]
      · rw [if_neg (fun e => hr e.1), if_neg (fun e => hr e.1)]
theorem mix_between {k a b : Int} (hk : 32 ≤ k ∧ k ≤ 63) : (a ≤ mixS k a b ∧ mixS k a b ≤ b) ∨ (b ≤ mixS k a b ∧ mixS k a b ≤ a) := by
  have key : ∀ m : Int, k * m + (64 - k) * m = 64 * m := fun m => by rw [← Int.add_mul]; congr 1; omega
  unfold mixS
  rcases Int.le_total a b with h | h
  · left
    have h1 : k * a ≤ k * b := Int.mul_le_mul_of_nonneg_left h (by omega)
    have h2 : (64 - k) * a ≤ (64 - k) * b := Int.mul_le_mul_of_nonneg_left h (by omega)
    have := key a; have := key b
    omega
  · right
    have h1 : k * b ≤ k * a := Int.mul_le_mul_of_nonneg_left h (by omega)
    have h2 : (64 - k) * b ≤ (64 - k) * a := Int.mul_le_mul_of_nonneg_left h (by omega)
    have := key a; have := key b
    omega
theorem between_ok (lo : Nat) (v a b : Int) (M : Mem) : Ac P T lo F.zoetropelaw15_between [.int .u8 v, .int .u8 a, .int .u8 b] M fun r => r = (.bool (decide ((a ≤ v ∧ v ≤ b) ∨ (b ≤ v ∧ v ≤ a))), M) := by
  have hmin : minI a b ≤ a ∧ minI a b ≤ b ∧ (minI a b = a ∨ minI a b = b) := by unfold minI; split <;> omega
  have hmax : a ≤ maxI a b ∧ b ≤ maxI a b ∧ (maxI a b = a ∨ maxI a b = b) := by unfold maxI; split <;> omega
  refine Ac.of (Evp.of_eq (fun k => zoetropelaw15_between.entry k ..) ?_)
  refine Evp.dec (fun h => Evp.ret (Run.ret ?_)) fun h => Evp.ret (Run.ret (by rw [decide_eq_false (by omega)]))
  congr 2
  exact decide_eq_decide.2 (by omega)
end Go.Zt
