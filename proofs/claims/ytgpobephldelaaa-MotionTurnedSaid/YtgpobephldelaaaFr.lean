/- MotionTurned. -/
import Derived.Test.YtgpobephldelaaaFp
set_option linter.unusedVariables false
set_option linter.unusedSimpArgs false
set_option maxRecDepth 100000
namespace Go.Zt
def trP (W H p : Nat) : Nat := p % W * H + p / W
theorem tr_eq {W H r c : Nat} (hc : c < W) : trP W H (r * W + c) = c * H + r := by
  unfold trP
  rw [(dm hc).1, (dm hc).2]
theorem row_in {h w y c : Nat} (hy : y < h) (hc : c < w) : y * w + c < h * w := by
  have : (y + 1) * w ≤ h * w := Nat.mul_le_mul_right w (by omega)
  rw [Nat.add_mul, Nat.one_mul] at this
  omega
theorem tr_tr {W H p : Nat} (hW : 0 < W) (hp : p < H * W) : trP H W (trP W H p) = p ∧ trP W H p < W * H ∧ trP W H p % H = p / W ∧ trP W H p / H = p % W := by
  have hr : p / W < H := (Nat.div_lt_iff_lt_mul hW).2 hp
  have hc : p % W < W := Nat.mod_lt _ hW
  have e : trP W H p = p % W * H + p / W := rfl
  rw [e, tr_eq hr, (dm hr).1, (dm hr).2]
  exact ⟨by rw [Nat.mul_comm]; exact Nat.div_add_mod p W, row_in hc hr, rfl, rfl⟩
theorem set_bytes {xs : List Int} (bx : Bytes xs) (i : Nat) {v : Int} (hv : 0 ≤ v ∧ v ≤ 255) : Bytes (xs.set i v) := fun z hz => by
  rcases List.mem_or_eq_of_mem_set hz with hz | rfl
  · exact bx z hz
  · exact hv
/-- What is turned about. -/
def TrOf (w h : Nat) (xs ys : List Int) : Prop := ys.length = xs.length ∧ ∀ p, p < xs.length → ys.getD (trP w h p) 0 = xs.getD p 0
theorem transposed_ok (lo : Nat) (A : Option Addr) (c w h : Nat) (xs : List Int) (M0 : Mem) (hlo : lo ≤ M0.length) (hx : RdI M0 .u8 A xs) (bx : Bytes xs) (hl : xs.length = h * w) (hw : 1 ≤ w ∧ w ≤ 64) (hh : 1 ≤ h ∧ h ≤ 64) :
    Ac P T lo F.zoetropelaw15_transposed [.slice A xs.length c, .int .i64 w] M0 fun r => ∃ a ys M', r = (.slice (some a) xs.length xs.length, M') ∧ Pre M0 M' ∧ Buf M0 M' a (ys.map (Value.int .u8)) ∧ TrOf w h xs ys ∧ Bytes ys := by
  have sm : h * w ≤ 64 * 64 := Nat.mul_le_mul hh.2 hw.2
  have loop : ∀ (d i : Nat) (b : Addr) (ys : List Int) (M : Mem), xs.length - i = d → i ≤ xs.length → ys.length = xs.length → Bytes ys → (∀ p, p < i → ys.getD (trP w h p) 0 = xs.getD p 0) → Pre M0 M → Buf M0 M b (ys.map (Value.int .u8)) →
      Run P T lo F.zoetropelaw15_transposed (zoetropelaw15_transposed.c244 A xs.length c w h (some b) xs.length xs.length i M) fun r => ∃ a ys M', r = (.slice (some a) xs.length xs.length, M') ∧ Pre M0 M' ∧ Buf M0 M' a (ys.map (Value.int .u8)) ∧ TrOf w h xs ys ∧ Bytes ys := by
    intro d
    induction d with
    | zero =>
      intro i b ys M hd hi hy by_ hq hp hbuf
      refine Run.cut (Evp.of_eq (fun k => zoetropelaw15_transposed.p244 k ..) ?_)
      exact Evp.dec (fun h => absurd h (by omega)) fun _ => Evp.ret (Run.ret ⟨b, ys, M, rfl, hp, hbuf, ⟨hy, fun p hp => hq p (by omega)⟩, by_⟩)
    | succ d ih =>
      intro i b ys M hd hi hy by_ hq hp hbuf
      have t := tr_tr (W := w) (H := h) (p := i) (by omega) (by omega)
      have t2 := t.2.1
      rw [Nat.mul_comm w h] at t2
      have hm : i % w < w := Nat.mod_lt _ (by omega)
      have hdv : i / w < h := (Nat.div_lt_iff_lt_mul (by omega)).2 (by omega)
      have ei : IntKind.i64.wrap ((IntKind.i64.wrap ((Int.tmod (i : Int) (w : Int)) * (h : Int))) + (IntKind.i64.wrap (Int.tdiv (i : Int) (w : Int)))) = ((trP w h i : Nat) : Int) := by
        rw [show Int.tdiv (i : Int) (w : Int) = ((i / w : Nat) : Int) from rfl, show Int.tmod (i : Int) (w : Int) = ((i % w : Nat) : Int) from rfl]
        unfold trP
        have m1 : i % w * h ≤ 64 * 64 := Nat.mul_le_mul (by omega) hh.2
        generalize i % w = r at *
        generalize i / w = q at *
        rw [← Int.natCast_mul, w64 (x := ((r * h : Nat) : Int)) (by omega), w64 (x := (q : Int)) (by omega), w64 (by omega)]; omega
      refine Run.cut (Evp.of_eq (fun k => zoetropelaw15_transposed.p244 k ..) ?_)
      refine Evp.dec (fun _ => ?_) fun h => absurd h (by omega)
      refine Evp.neg (by omega) (Evp.neg (by omega) (Evp.pos (by omega) ?_))
      simp only [Int.toNat_natCast]
      refine Evp.ldI (hx.pre hp) (by omega) fun _ _ => ?_
      rw [ei, w64 (x := (i : Int) + 1) (by omega)]
      refine Evp.pos (by omega) (Evp.some rfl ?_)
      simp only [Int.toNat_natCast]
      obtain ⟨M4, h1, h2, h3, h4, h5⟩ := hbuf.st (lo := lo) (i := trP w h i) (vs := [.int .u8 (xs.getD i 0)]) hp hlo (by simp; omega)
      refine Evp.some h1 ?_
      rw [setL_one, set_map] at h2
      refine Evp.ret (ih (i + 1) b _ M4 (by omega) (by omega) (by simpa using hy) (set_bytes by_ _ (bx.get i)) (fun p hpi => ?_) h3 h2)
      rw [getD_set (by omega)]
      split
      · rename_i e
        have : p = i := by rw [← (tr_tr (W := w) (H := h) (p := p) (by omega) (by omega)).1, e, t.1]
        rw [this]
      · rename_i e
        exact hq p (by
          by_cases g : p = i
          · subst g; exact absurd rfl e
          · omega)
  have eh : IntKind.i64.wrap (Int.tdiv ((xs.length : Nat) : Int) (w : Int)) = (h : Int) := by
    rw [show Int.tdiv ((xs.length : Nat) : Int) (w : Int) = ((xs.length / w : Nat) : Int) from rfl, hl, Nat.mul_div_cancel h (by omega), w64 (by omega)]
  refine Ac.of (Evp.of_eq (fun k => zoetropelaw15_transposed.entry k ..) ?_)
  refine Evp.neg (by omega) (Evp.pos ⟨by omega, by show _ * 1 ≤ _; omega⟩ ?_)
  simp only [Int.toNat_natCast]
  rw [eh]
  have hz : zerosL [.int .u8 0] xs.length = (List.replicate xs.length (0 : Int)).map (Value.int .u8) := by rw [zerosL_one, List.map_replicate]
  rw [hz]
  exact Evp.ret (loop _ 0 _ _ _ rfl (Nat.zero_le _) List.length_replicate (fun x hx => by obtain rfl := (List.mem_replicate.1 hx).2; decide) (fun p hp => absurd hp (by omega)) (Pre.app _ _) (Buf.push (Pre.refl _)))
/-! ### Plain -/
theorem inR_tr {w h X Y W H p : Nat} (hw : 0 < w) (hp : p < h * w) : inR h Y X H W (trP w h p) ↔ inR w X Y W H p := by
  obtain ⟨_, _, e1, e2⟩ := tr_tr hw hp
  unfold inR
  rw [e1, e2]
  exact ⟨fun e => ⟨e.2.2.1, e.2.2.2, e.1, e.2.1⟩, fun e => ⟨e.2.2.1, e.2.2.2, e.1, e.2.1⟩⟩
theorem bl_turned {own other own' other' : List Int} {w h X Y W H : Nat} (r : Rect w h X Y W H) (ho : own.length = h * w) (ht : other.length = H * W) (to : TrOf w h own own') (tt : TrOf W H other other') {p : Nat} (hp : p < h * w) :
    (blS false own' other' h Y X H W (H * W)).getD (trP w h p) 0 = (blS true own other w X Y W H (W * H)).getD p 0 := by
  have w0 : 0 < w := r.w1
  have r' : Rect h w Y X H W := ⟨r.h1, r.h2, r.w1, r.w2, r.rh, r.rw, r.y, r.x⟩
  have g1 := bl_get true (own := own) (other := other) r ho p (W * H) (Nat.le_refl _)
  have g2 := bl_get false (own := own') (other := other') r' (by rw [to.1, ho, Nat.mul_comm]) (trP w h p) (H * W) (Nat.le_refl _)
  rw [g1, g2]
  by_cases hin : inR w X Y W H p
  · obtain ⟨a1, a2, a3, a4⟩ := at_inv r hin
    have hin' := (inR_tr (X := X) (Y := Y) (W := W) (H := H) w0 hp).2 hin
    obtain ⟨b1, b2, b3, b4⟩ := at_inv r' hin'
    obtain ⟨_, _, e1, e2⟩ := tr_tr w0 hp
    rw [if_pos ⟨hin', b2⟩, if_pos ⟨hin, a2⟩]
    have ei : invR h Y X H (trP w h p) = trP W H (invR w X Y W p) := by
      unfold invR
      rw [e1, e2]
      obtain ⟨q1, q2, q3, q4⟩ := hin
      have hc : p % w - X < W := by generalize p % w = a at *; omega
      rw [tr_eq hc]
    have ea : alS false H (invR h Y X H (trP w h p)) = alS true W (invR w X Y W p) := by
      unfold alS
      simp only [Bool.false_eq_true, if_false, if_true]
      rw [b4, a3, e1]
    have en : nA false H W = nA true W H := rfl
    rw [ea, en, to.2 p (by rw [ho]; exact hp), ei, tt.2 _ (by rw [ht, Nat.mul_comm]; exact a2)]
  · have hin' : ¬ inR h Y X H W (trP w h p) := fun e => hin ((inR_tr (X := X) (Y := Y) (W := W) (H := H) w0 hp).1 e)
    rw [if_neg (fun e => hin' e.1), if_neg (fun e => hin e.1)]
    exact to.2 p (by rw [ho]; exact hp)
theorem lies_turn {w h X Y W H : Nat} {n : Nat} (e : n = h * w) (r : Rect w h X Y W H) : LiesP n h Y X H W := by
  have w1 := r.w1; have w2 := r.w2; have h1 := r.h1; have h2 := r.h2; have x := r.x; have y := r.y; have rw' := r.rw; have rh := r.rh
  have d1 : (n : Int) / h = w := by
    rw [e, Int.natCast_mul, Int.mul_ediv_cancel_left _ (by omega)]
  have d2 : (n : Int) % h = 0 := by rw [e, Int.natCast_mul]; exact Int.mul_emod_right ..
  refine ⟨by omega, by omega, d2, ?_, ?_, by omega, by omega, by omega, by omega, by omega, ?_, by omega, ?_⟩ <;> rw [d1] <;> omega
theorem wS_rise {n i : Nat} (hi : i + 1 < n) : wS n i ≤ wS n (i + 1) := by
  unfold wS
  have : (2 * (i : Int) + 1) * 16 / (n : Int) ≤ (2 * ((i + 1 : Nat) : Int) + 1) * 16 / (n : Int) := Int.ediv_le_ediv (by omega) (by omega)
  omega
theorem wS_last : wS 32 31 = 63 := by decide
/-! ### The law -/
theorem MotionTurned_law (M : Mem) (vs : List Value) (hro : AllRo M) (hv : LaysArgs P M [51] vs) : Ac P T M.length F.zoetropelaw15_MotionTurned vs M fun r => r.1 = .bool true := by
  obtain ⟨A, c, own, w, x, y, rw', rh, B, cb, other, rfl, hc, hn, hx, wx, _, _, _, _, _, hc', hn', hy, wy⟩ := Arg.MotionTurned hv
  have bo : Bytes own := fun x hx => wf_u8 (wx x hx)
  have bt : Bytes other := fun x hx => wf_u8 (wy x hx)
  refine Ac.of (Evp.of_eq (fun k => zoetropelaw15_MotionTurned.entry k ..) ?_)
  refine Evp.ob (works_ok _ _ (Nat.le_refl _)) ?_
  rintro _ ⟨M1, rfl, p1⟩
  simp only [ret_int, ret_bool, ret_flt, ret_slc, ret_str, ret_ptr, ret_agg, ret_tup, ob_some, bb_true, bb_false, List.getElem?_cons_zero, List.getElem?_cons_succ, List.length_cons, List.length_nil, Nat.reduceAdd, Nat.reduceLT]
  refine Evp.ff rfl ?_
  have fin : ∀ M2, Pre M M2 → Run P T M.length F.zoetropelaw15_MotionTurned (zoetropelaw15_MotionTurned.c244 63 33 A own.length c w x y rw' rh B other.length cb M2) fun r => r.1 = .bool true := by
    intro M2 p2
    refine Run.cut (Evp.of_eq (fun k => zoetropelaw15_MotionTurned.p244 k ..) ?_)
    refine Evp.dec (fun h => absurd h (by decide)) fun _ => ?_
    refine Evp.ob (above_ok M.length A B c cb own other M2 w x y rw' rh p2.len (hx.pre p2) (hy.pre p2) bo bt (by omega)) ?_
    rintro ⟨v, M3⟩ hr
    by_cases hk : LiesP own.length w x y rw' rh ∧ (4 ≤ rh ∧ rh ≤ 32) ∧ (other.length : Int) = rw' * rh
    · obtain ⟨D, cd, rfl, p3, _, o⟩ := hr.got hk
      obtain ⟨hl, h4, ht⟩ := hk
      obtain ⟨w', h', x', y', W', H', rfl, rfl, rfl, rfl, rfl, e1, rc⟩ := lies_nat hl
      have sm := small_mul (a := W') (b := H') (by have := rc.x; have := rc.w2; omega) (by have := rc.y; have := rc.h2; omega)
      have sm2 : h' * w' ≤ 64 * 64 := Nat.mul_le_mul rc.h2 rc.w2
      have em : (W' : Int) * (H' : Int) = ((W' * H' : Nat) : Int) := by rw [Int.natCast_mul]
      rw [em] at ht
      have ht : other.length = W' * H' := by omega
      simp only [Int.toNat_natCast] at o
      rw [ht] at o
      have bl := bl_len true own other w' x' y' W' H' (W' * H')
      have blb := bl_bytes (al := true) bo bt rc (W' * H') (Nat.le_refl _)
      have w1 := rc.w1; have w2 := rc.w2; have h1 := rc.h1; have h2 := rc.h2; have rx := rc.x; have ry := rc.y; have rr := rc.rw; have rhh := rc.rh
      simp only [ret_int, ret_bool, ret_flt, ret_slc, ret_str, ret_ptr, ret_agg, ret_tup, ob_some, bb_true, bb_false, List.getElem?_cons_zero, List.getElem?_cons_succ, List.length_cons, List.length_nil, Nat.reduceAdd, Nat.reduceLT]
      refine Evp.neb (fun h => absurd rfl h) fun _ => ?_
      refine Evp.dec (fun h => absurd h (by omega)) fun _ => Evp.dec (fun h => absurd h (by omega)) fun _ => ?_
      refine Evp.neg (by omega) ?_
      have tm : Int.tmod ((own.length : Nat) : Int) (w' : Int) = 0 := by
        rw [show Int.tmod ((own.length : Nat) : Int) (w' : Int) = ((own.length % w' : Nat) : Int) from rfl, e1, Nat.mul_mod_left]; rfl
      rw [tm]
      refine Evp.neb (fun h => absurd rfl h) fun _ => ?_
      rw [em, w64 (by omega)]
      refine Evp.neb (fun h => absurd (by rw [ht]) h) fun _ => ?_
      have q3 := p2.trans p3
      refine Evp.ob (transposed_ok M3.length A c w' h' own M3 (Nat.le_refl _) (hx.pre q3) bo e1 ⟨w1, w2⟩ ⟨h1, h2⟩) ?_
      rintro _ ⟨a4, ys, M4, rfl, p4, b4, t4, by4⟩
      simp only [ret_int, ret_bool, ret_flt, ret_slc, ret_str, ret_ptr, ret_agg, ret_tup, ob_some, bb_true, bb_false, List.getElem?_cons_zero, List.getElem?_cons_succ, List.length_cons, List.length_nil, Nat.reduceAdd, Nat.reduceLT]
      refine Evp.neg (by omega) ?_
      have q4 := q3.trans p4
      refine Evp.ob (transposed_ok M3.length B cb W' H' other M4 p4.len (hy.pre q4) bt (by rw [ht, Nat.mul_comm]) ⟨rr, by omega⟩ ⟨rhh, by omega⟩) ?_
      rintro _ ⟨a5, zs, M5, rfl, p5, b5, t5, by5⟩
      simp only [ret_int, ret_bool, ret_flt, ret_slc, ret_str, ret_ptr, ret_agg, ret_tup, ob_some, bb_true, bb_false, List.getElem?_cons_zero, List.getElem?_cons_succ, List.length_cons, List.length_nil, Nat.reduceAdd, Nat.reduceLT]
      have eh : IntKind.i64.wrap (Int.tdiv ((own.length : Nat) : Int) (w' : Int)) = (h' : Int) := by
        rw [show Int.tdiv ((own.length : Nat) : Int) (w' : Int) = ((own.length / w' : Nat) : Int) from rfl, e1, Nat.mul_div_cancel h' (by omega), w64 (by omega)]
      rw [eh]
      have L := left_ok M3.length (some a4) (some a5) own.length other.length ys zs M5 h' y' x' H' W' (p4.trans p5).len (b4.pre p5).rdI b5.rdI by4 by5 (by rw [t4.1]; omega)
      rw [t4.1, t5.1] at L
      refine Evp.ob L ?_
      rintro ⟨v, M6⟩ hr6
      obtain ⟨D6, cd6, rfl, p6, _, o6⟩ := hr6.got ⟨by rw [t4.1]; exact lies_turn e1 rc, by simp only [Bool.false_eq_true, if_false]; omega, by rw [t5.1, ht, Int.natCast_mul, Int.mul_comm]⟩
      simp only [Int.toNat_natCast] at o6
      rw [t5.1, ht, Nat.mul_comm W' H'] at o6
      simp only [ret_int, ret_bool, ret_flt, ret_slc, ret_str, ret_ptr, ret_agg, ret_tup, ob_some, bb_true, bb_false, List.getElem?_cons_zero, List.getElem?_cons_succ, List.length_cons, List.length_nil, Nat.reduceAdd, Nat.reduceLT]
      refine Evp.tt rfl (Evp.tt rfl ?_)
      have q6 := (p4.trans p5).trans p6
      have T := transposed_ok M.length D cd w' h' _ M6 (Nat.le_trans q3.len q6.len) (o.rd.pre q6) blb (by rw [bl, e1]) ⟨w1, w2⟩ ⟨h1, h2⟩
      rw [bl] at T
      refine Evp.ob T ?_
      rintro _ ⟨a7, us, M7, rfl, p7, b7, t7, by7⟩
      simp only [ret_int, ret_bool, ret_flt, ret_slc, ret_str, ret_ptr, ret_agg, ret_tup, ob_some, bb_true, bb_false, List.getElem?_cons_zero, List.getElem?_cons_succ, List.length_cons, List.length_nil, Nat.reduceAdd, Nat.reduceLT]
      have l6 := bl_len false ys zs h' y' x' H' W' (H' * W')
      have E := eqBytes_ok M.length D6 (some a7) cd6 own.length _ _ M7 (o6.rd.pre p7) b7.rdI (by rw [l6, t4.1]; omega)
      rw [l6, t7.1, bl] at E
      refine Evp.ob E ?_
      rintro _ rfl
      simp only [ret_int, ret_bool, ret_flt, ret_slc, ret_str, ret_ptr, ret_agg, ret_tup, ob_some, bb_true, bb_false, List.getElem?_cons_zero, List.getElem?_cons_succ, List.length_cons, List.length_nil, Nat.reduceAdd, Nat.reduceLT]
      refine Evp.tt (decide_eq_true ?_) (Evp.ret (Run.ret (by simp)))
      refine ext_getD (by rw [l6, t4.1, t7.1, bl]) fun q hq => ?_
      rw [l6, t4.1, e1] at hq
      have hq' : q < w' * h' := by rw [Nat.mul_comm]; exact hq
      obtain ⟨g1, g2, _, _⟩ := tr_tr (W := h') (H := w') (p := q) (by omega) hq'
      have := t7.2 (trP h' w' q) (by rw [bl, e1]; exact g2)
      rw [g1] at this
      rw [this]
      have B := bl_turned rc e1 (by rw [ht, Nat.mul_comm]) t4 t5 (p := trP h' w' q) g2
      rw [g1] at B
      rw [B, Nat.mul_comm W' H']
    · obtain ⟨rfl, p3⟩ := hr.not hk
      simp only [ret_int, ret_bool, ret_flt, ret_slc, ret_str, ret_ptr, ret_agg, ret_tup, ob_some, bb_true, bb_false, List.getElem?_cons_zero, List.getElem?_cons_succ, List.length_cons, List.length_nil, Nat.reduceAdd, Nat.reduceLT]
      exact Evp.tt rfl (Evp.tt rfl (Evp.ret (Run.ret rfl)))
  have rise : ∀ (n : Nat) (a : Addr) (cc : Nat) (last : Int) (M2 : Mem), 4 ≤ n → n ≤ 32 → Pre M M2 → RdI M2 .i64 (some a) (wL n) → (∀ M2, Pre M M2 → Run P T M.length F.zoetropelaw15_MotionTurned (zoetropelaw15_MotionTurned.c244 (wS n (n - 1)) ((n + 1 : Nat) : Int) A own.length c w x y rw' rh B other.length cb M2) fun r => r.1 = .bool true) →
      ∀ (d i : Nat), n - i = d → 1 ≤ i → i ≤ n → Run P T M.length F.zoetropelaw15_MotionTurned (zoetropelaw15_MotionTurned.c125236 n (some a) n cc i A own.length c w x y rw' rh B other.length cb M2) fun r => r.1 = .bool true := by
    intro n a cc last M2 n4 n32 p2 hr next d
    have ll := wL_len n
    induction d with
    | zero =>
      intro i hd h1 hi
      refine Run.cut (Evp.of_eq (fun k => zoetropelaw15_MotionTurned.p125236 k ..) ?_)
      refine Evp.dec (fun h => absurd h (by omega)) fun _ => ?_
      rw [w64 (x := (n : Int) - 1) (by omega), show (n : Int) - 1 = ((n - 1 : Nat) : Int) by omega, w64 (x := (n : Int) + 1) (by omega)]
      refine Evp.pos (by omega) ?_
      simp only [Int.toNat_natCast]
      refine Evp.ldI hr (by omega) fun _ _ => ?_
      rw [wL_get (by omega)]
      exact Evp.ret (next M2 p2)
    | succ d ih =>
      intro i hd h1 hi
      refine Run.cut (Evp.of_eq (fun k => zoetropelaw15_MotionTurned.p125236 k ..) ?_)
      refine Evp.dec (fun _ => ?_) fun h => absurd h (by omega)
      refine Evp.pos (by omega) ?_
      rw [w64 (x := (i : Int) - 1) (by omega), show (i : Int) - 1 = ((i - 1 : Nat) : Int) by omega, w64 (x := (i : Int) + 1) (by omega)]
      simp only [Int.toNat_natCast]
      refine Evp.ldI hr (by omega) fun _ _ => Evp.pos (by omega) (Evp.ldI hr (by omega) fun _ _ => ?_)
      rw [wL_get (by omega), wL_get (by omega)]
      obtain ⟨j, rfl⟩ : ∃ j, i = j + 1 := ⟨i - 1, by omega⟩
      have := wS_rise (n := n) (i := j) (by omega)
      refine Evp.dec (fun h => absurd h (by rw [Nat.add_sub_cancel]; omega)) fun _ => Evp.ret (ih (j + 2) (by omega) (by omega) (by omega))
  have loop : ∀ (d n : Nat) (last : Int) (M2 : Mem), 33 - n = d → 4 ≤ n → n ≤ 33 → (n = 33 → last = 63) → Pre M M2 → Run P T M.length F.zoetropelaw15_MotionTurned (zoetropelaw15_MotionTurned.c244 last n A own.length c w x y rw' rh B other.length cb M2) fun r => r.1 = .bool true := by
    intro d
    induction d with
    | zero =>
      intro n last M2 hd h4 h33 hlast p2
      obtain rfl : n = 33 := by omega
      rw [hlast rfl]
      exact fin M2 p2
    | succ d ih =>
      intro n last M2 hd h4 h33 hlast p2
      refine Run.cut (Evp.of_eq (fun k => zoetropelaw15_MotionTurned.p244 k ..) ?_)
      refine Evp.dec (fun _ => ?_) fun h => absurd h (by omega)
      refine Evp.ob (weights_ok M.length n M2 p2.len) ?_
      rintro ⟨v, M3⟩ ⟨p3, hw⟩
      rw [if_pos (by omega)] at hw
      obtain ⟨a, cc, e, _, b1⟩ := hw
      simp only at e
      subst e
      simp only [ret_int, ret_bool, ret_flt, ret_slc, ret_str, ret_ptr, ret_agg, ret_tup, ob_some, bb_true, bb_false, List.getElem?_cons_zero, List.getElem?_cons_succ, List.length_cons, List.length_nil, Nat.reduceAdd, Nat.reduceLT, Int.toNat_natCast] at b1 ⊢
      have ll := wL_len n
      have hr := b1.rdI
      refine Evp.neb (fun h => absurd rfl h) fun _ => Evp.neb (fun h => absurd rfl h) fun _ => ?_
      refine Evp.pos (by omega) ?_
      refine Evp.ldI (i := 0) hr (by omega) fun _ _ => ?_
      rw [wL_get (by omega)]
      have w0 := wS_le (n := n) (i := 0) (by omega)
      refine Evp.dec (fun h => absurd h (by omega)) fun _ => ?_
      rw [w64 (x := (n : Int) - 1) (by omega), show (n : Int) - 1 = ((n - 1 : Nat) : Int) by omega]
      refine Evp.pos (by omega) ?_
      simp only [Int.toNat_natCast]
      refine Evp.ldI hr (by omega) fun _ _ => ?_
      rw [wL_get (by omega)]
      have w9 := wS_le (n := n) (i := n - 1) (by omega)
      refine Evp.dec (fun h => absurd h (by omega)) fun _ => ?_
      have q3 := p2.trans p3
      refine Evp.ret (rise n a cc last M3 h4 (by omega) q3 hr (fun M4 p4 => ih (n + 1) _ M4 (by omega) (by omega) (by omega) (fun e => ?_) p4) _ 1 rfl (by omega) (by omega))
      obtain rfl : n = 32 := by omega
      exact wS_last
  exact Evp.ret (loop 29 4 0 M1 rfl (by decide) (by decide) (fun e => absurd e (by decide)) p1)
end Go.Zt
