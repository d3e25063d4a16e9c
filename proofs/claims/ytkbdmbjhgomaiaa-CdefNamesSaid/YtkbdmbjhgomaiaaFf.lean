/- Blocks of the program; that it works at all; CdefLimits. -/
import Derived.Test.YtkbdmbjhgomaiaaFe
import Derived.Test.YtkbdmbjhgomaiaaArg
set_option linter.unusedVariables false
set_option linter.unusedSimpArgs false
set_option maxRecDepth 100000
namespace Go.Zt
def blockS (w h : Nat) (xs : List Int) (X Y W : Nat) (p : Int) (T : List Int) (n : Nat) : List Int := (List.range n).map fun i => sampS w h xs ((X + i % W : Nat) : Int) ((Y + i / W : Nat) : Int) p T
theorem blockS_succ (w h : Nat) (xs : List Int) (X Y W : Nat) (p : Int) (T : List Int) (n : Nat) : blockS w h xs X Y W p T (n + 1) = blockS w h xs X Y W p T n ++ [sampS w h xs ((X + n % W : Nat) : Int) ((Y + n / W : Nat) : Int) p T] := by
  unfold blockS; rw [List.range_succ, List.map_append]; rfl
def BlockOk (w h n x y rw rh dir pri sec p : Int) : Prop := checkS w h n = 0 ∧ (1 ≤ rw ∧ rw ≤ 64) ∧ (1 ≤ rh ∧ rh ≤ 64) ∧ (0 ≤ x ∧ x ≤ w - rw) ∧ (0 ≤ y ∧ y ≤ h - rh) ∧ (0 ≤ dir ∧ dir ≤ 7) ∧ (0 ≤ pri ∧ pri ≤ 15) ∧ (0 ≤ sec ∧ sec ≤ 4) ∧ (0 ≤ p ∧ p ≤ 6)
instance (w h n x y rw rh dir pri sec p : Int) : Decidable (BlockOk w h n x y rw rh dir pri sec p) := inferInstanceAs (Decidable (_ ∧ _))
theorem cwithin_ok (lo : Nat) (v a b : Int) (M : Mem) : Ac P T lo F.cdef_within [.int .i64 v, .int .i64 a, .int .i64 b] M fun r => r = (.bool (decide (a ≤ v ∧ v ≤ b)), M) := by
  refine Ac.of (Evp.of_eq (fun k => cdef_within.entry k ..) ?_)
  refine Evp.dec (fun h => Evp.ret (Run.ret ?_)) fun h => Evp.ret (Run.ret (by rw [decide_eq_false (fun e => h e.1)]))
  congr 2
  exact decide_eq_decide.2 ⟨fun e => ⟨h, e⟩, fun e => e.2⟩
/-- What Block hands back. -/
def BlockR (M : Mem) (w h : Int) (xs : List Int) (x y rw rh dir pri sec p : Int) (r : Value × Mem) : Prop :=
  Pre M r.2 ∧ if BlockOk w h xs.length x y rw rh dir pri sec p then ∃ A c, r.1 = .tuple ⟨[.slice A (rw.toNat * rh.toNat) c, .int .i64 0]⟩ ∧ rw.toNat * rh.toNat ≤ c ∧ Grow M r.2 1 A (rw.toNat * rh.toNat) ((blockS w.toNat h.toNat xs x.toNat y.toNat rw.toNat p (tapsS dir.toNat pri.toNat sec.toNat) (rw.toNat * rh.toNat)).map (Value.int .u8))
    else r.1 = .tuple ⟨[.slice none 0 0, .int .i64 2]⟩
section
variable (lo : Nat) (A : Option Addr) (c : Nat) (xs : List Int) (w h : Int) (x y rw' rh dir pri sec p : Int) (M : Mem) (hlo : lo ≤ M.length) (hx : RdI M .u8 A xs) (bx : Bytes xs)
include hlo hx bx
theorem block_ok : Ac P T lo F.cdef_Block [.agg ⟨[.int .i64 w, .int .i64 h, .slice A xs.length c]⟩, .agg ⟨[.int .i64 x, .int .i64 y, .int .i64 rw', .int .i64 rh]⟩, .int .i64 dir, .int .i64 pri, .int .i64 sec, .int .i64 p] M (BlockR M w h xs x y rw' rh dir pri sec p) := by
  have bad : ¬ BlockOk w h xs.length x y rw' rh dir pri sec p → Run P T lo F.cdef_Block (.ret (.tuple ⟨[.slice none 0 0, .int .i64 2]⟩) M) (BlockR M w h xs x y rw' rh dir pri sec p) := fun hno => Run.ret ⟨Pre.refl _, by rw [if_neg hno]⟩
  refine Ac.of (Evp.of_eq (fun k => cdef_Block.entry k ..) ?_)
  refine Evp.ob (check_ok ..) ?_
  rintro _ rfl
  simp only [ret_int, ret_bool, ret_flt, ret_slc, ret_str, ret_ptr, ret_agg, ret_tup, ob_some, bb_true, bb_false, List.getElem?_cons_zero, List.getElem?_cons_succ, List.length_cons, List.length_nil, Nat.reduceAdd, Nat.reduceLT]
  refine Evp.eqb (fun k1 => ?_) fun g => Evp.ret (bad fun e => g e.1)
  have s1 := checkS_len' k1
  refine Evp.ob (cwithin_ok ..) ?_
  rintro _ rfl
  simp only [ret_int, ret_bool, ret_flt, ret_slc, ret_str, ret_ptr, ret_agg, ret_tup, ob_some, bb_true, bb_false, List.getElem?_cons_zero, List.getElem?_cons_succ, List.length_cons, List.length_nil, Nat.reduceAdd, Nat.reduceLT]
  refine Evp.dec (fun k2 => ?_) fun g => Evp.ret (bad fun e => g e.2.1)
  refine Evp.ob (cwithin_ok ..) ?_
  rintro _ rfl
  simp only [ret_int, ret_bool, ret_flt, ret_slc, ret_str, ret_ptr, ret_agg, ret_tup, ob_some, bb_true, bb_false, List.getElem?_cons_zero, List.getElem?_cons_succ, List.length_cons, List.length_nil, Nat.reduceAdd, Nat.reduceLT]
  refine Evp.dec (fun k3 => ?_) fun g => Evp.ret (bad fun e => g e.2.2.1)
  rw [w64 (x := w - rw') (by omega), w64 (x := h - rh) (by omega)]
  refine Evp.ob (cwithin_ok ..) ?_
  rintro _ rfl
  simp only [ret_int, ret_bool, ret_flt, ret_slc, ret_str, ret_ptr, ret_agg, ret_tup, ob_some, bb_true, bb_false, List.getElem?_cons_zero, List.getElem?_cons_succ, List.length_cons, List.length_nil, Nat.reduceAdd, Nat.reduceLT]
  refine Evp.dec (fun k4 => ?_) fun g => Evp.ret (bad fun e => g e.2.2.2.1)
  refine Evp.ob (cwithin_ok ..) ?_
  rintro _ rfl
  simp only [ret_int, ret_bool, ret_flt, ret_slc, ret_str, ret_ptr, ret_agg, ret_tup, ob_some, bb_true, bb_false, List.getElem?_cons_zero, List.getElem?_cons_succ, List.length_cons, List.length_nil, Nat.reduceAdd, Nat.reduceLT]
  refine Evp.nb (fun g => Evp.ret (bad fun e => of_decide_eq_false g e.2.2.2.2.1)) fun k5 => ?_
  have k5 := of_decide_eq_true k5
  refine Evp.ob (cwithin_ok ..) ?_
  rintro _ rfl
  simp only [ret_int, ret_bool, ret_flt, ret_slc, ret_str, ret_ptr, ret_agg, ret_tup, ob_some, bb_true, bb_false, List.getElem?_cons_zero, List.getElem?_cons_succ, List.length_cons, List.length_nil, Nat.reduceAdd, Nat.reduceLT]
  refine Evp.nb (fun g => Evp.ret (bad fun e => of_decide_eq_false g e.2.2.2.2.2.1)) fun k6 => ?_
  have k6 := of_decide_eq_true k6
  refine Evp.ob (cwithin_ok ..) ?_
  rintro _ rfl
  simp only [ret_int, ret_bool, ret_flt, ret_slc, ret_str, ret_ptr, ret_agg, ret_tup, ob_some, bb_true, bb_false, List.getElem?_cons_zero, List.getElem?_cons_succ, List.length_cons, List.length_nil, Nat.reduceAdd, Nat.reduceLT]
  refine Evp.nb (fun g => Evp.ret (bad fun e => of_decide_eq_false g e.2.2.2.2.2.2.1)) fun k7 => ?_
  have k7 := of_decide_eq_true k7
  refine Evp.ob (cwithin_ok ..) ?_
  rintro _ rfl
  simp only [ret_int, ret_bool, ret_flt, ret_slc, ret_str, ret_ptr, ret_agg, ret_tup, ob_some, bb_true, bb_false, List.getElem?_cons_zero, List.getElem?_cons_succ, List.length_cons, List.length_nil, Nat.reduceAdd, Nat.reduceLT]
  refine Evp.nb (fun g => Evp.ret (bad fun e => of_decide_eq_false g e.2.2.2.2.2.2.2.1)) fun k8 => ?_
  have k8 := of_decide_eq_true k8
  refine Evp.ob (cwithin_ok ..) ?_
  rintro _ rfl
  simp only [ret_int, ret_bool, ret_flt, ret_slc, ret_str, ret_ptr, ret_agg, ret_tup, ob_some, bb_true, bb_false, List.getElem?_cons_zero, List.getElem?_cons_succ, List.length_cons, List.length_nil, Nat.reduceAdd, Nat.reduceLT]
  refine Evp.nb (fun g => Evp.ret (bad fun e => of_decide_eq_false g e.2.2.2.2.2.2.2.2)) fun k9 => ?_
  have k9 := of_decide_eq_true k9
  have ok : BlockOk w h xs.length x y rw' rh dir pri sec p := ⟨k1, k2, k3, k4, k5, k6, k7, k8, k9⟩
  obtain ⟨w, rfl⟩ := Int.eq_ofNat_of_zero_le (a := w) (by omega)
  obtain ⟨h, rfl⟩ := Int.eq_ofNat_of_zero_le (a := h) (by omega)
  obtain ⟨X, rfl⟩ := Int.eq_ofNat_of_zero_le k4.1
  obtain ⟨Y, rfl⟩ := Int.eq_ofNat_of_zero_le k5.1
  obtain ⟨W, rfl⟩ := Int.eq_ofNat_of_zero_le (a := rw') (by omega)
  obtain ⟨H, rfl⟩ := Int.eq_ofNat_of_zero_le (a := rh) (by omega)
  obtain ⟨dir, rfl⟩ := Int.eq_ofNat_of_zero_le k6.1
  obtain ⟨pri, rfl⟩ := Int.eq_ofNat_of_zero_le k7.1
  obtain ⟨sec, rfl⟩ := Int.eq_ofNat_of_zero_le k8.1
  have n1 : xs.length = h * w := by have := s1.2.2.2.2; rw [← Int.natCast_mul, Nat.mul_comm] at this; omega
  have sm : W * H ≤ 64 * 64 := Nat.mul_le_mul (by omega) (by omega)
  refine Evp.ob (taps_ok lo dir pri sec M hlo (by omega) (by omega) (by omega)) ?_
  rintro _ ⟨R, cr, M1, rfl, p1, hR⟩
  simp only [ret_int, ret_bool, ret_flt, ret_slc, ret_str, ret_ptr, ret_agg, ret_tup, ob_some, bb_true, bb_false, List.getElem?_cons_zero, List.getElem?_cons_succ, List.length_cons, List.length_nil, Nat.reduceAdd, Nat.reduceLT]
  rw [← Int.natCast_mul, w64 (x := ((W * H : Nat) : Int)) (by omega)]
  refine Evp.pos ⟨by omega, by show _ * 1 ≤ _; omega⟩ ?_
  have tb := tapsS_b (dir := dir) (pri := pri) (sec := sec) (by omega)
  obtain ⟨T', hT'⟩ : ∃ T', T' = tapsS dir pri sec := ⟨_, rfl⟩
  rw [← hT'] at hR tb
  have rows : ∀ (d j : Nat) (B : Option Addr) (cb : Nat) (M2 : Mem), H - j = d → j ≤ H → Pre M1 M2 → j * W ≤ cb → Grow M1 M2 1 B (j * W) ((blockS w h xs X Y W p T' (j * W)).map (Value.int .u8)) →
      Run P T lo F.cdef_Block (cdef_Block.c1012 p R 6 cr B (j * W) cb ((Y + j : Nat) : Int) w h A xs.length c X Y W H M2) fun r => Pre M r.2 ∧ ∃ A c, r.1 = .tuple ⟨[.slice A (W * H) c, .int .i64 0]⟩ ∧ W * H ≤ c ∧ Grow M r.2 1 A (W * H) ((blockS w h xs X Y W p T' (W * H)).map (Value.int .u8)) := by
    intro d
    induction d with
    | zero =>
      intro j B cb M2 hd hj hp hc hg
      obtain rfl : H = j := by omega
      rw [Nat.mul_comm H W] at hg hc ⊢
      refine Run.cut (Evp.of_eq (fun k => cdef_Block.p1012 k ..) ?_)
      rw [w64 (x := (Y : Int) + H) (by omega)]
      refine Evp.dec (fun g => absurd g (by omega)) fun _ => Evp.ret (Run.ret ⟨p1.trans hp, B, cb, rfl, hc, ⟨hg.len, ?_⟩⟩)
      rcases hg.at_ with g | ⟨b, g1, g2, g3⟩
      · exact .inl g
      · exact .inr ⟨b, g1, Nat.le_trans p1.len g2, g3⟩
    | succ d ih =>
      intro j B cb M2 hd hj hp hc hg
      have hjH : j < H := by omega
      have cols : ∀ (e i : Nat) (B : Option Addr) (cb : Nat) (M2 : Mem), W - i = e → i ≤ W → Pre M1 M2 → j * W + i ≤ cb → Grow M1 M2 1 B (j * W + i) ((blockS w h xs X Y W p T' (j * W + i)).map (Value.int .u8)) →
          Run P T lo F.cdef_Block (cdef_Block.c64804 p R 6 cr B (j * W + i) cb ((Y + j : Nat) : Int) ((X + i : Nat) : Int) w h A xs.length c X Y W H M2) fun r => Pre M r.2 ∧ ∃ A c, r.1 = .tuple ⟨[.slice A (W * H) c, .int .i64 0]⟩ ∧ W * H ≤ c ∧ Grow M r.2 1 A (W * H) ((blockS w h xs X Y W p T' (W * H)).map (Value.int .u8)) := by
        intro e
        induction e with
        | zero =>
          intro i B cb M2 he hi hp hc hg
          obtain rfl : W = i := by omega
          refine Run.cut (Evp.of_eq (fun k => cdef_Block.p64804 k ..) ?_)
          rw [w64 (x := (X : Int) + W) (by omega)]
          refine Evp.dec (fun g => absurd g (by omega)) fun _ => ?_
          rw [w64 (by omega), show ((Y + j : Nat) : Int) + 1 = ((Y + (j + 1) : Nat) : Int) by omega]
          rw [show j * W + W = (j + 1) * W by rw [Nat.add_mul, Nat.one_mul]] at hg hc ⊢
          exact Evp.ret (ih (j + 1) B cb M2 (by omega) (by omega) hp hc hg)
        | succ e ih2 =>
          intro i B cb M2 he hi hp hc hg
          have hiW : i < W := by omega
          have q := p1.trans hp
          have jl : j * W + i < W * H := by
            have : (j + 1) * W ≤ H * W := Nat.mul_le_mul_right W (by omega)
            rw [Nat.add_mul, Nat.one_mul, Nat.mul_comm H W] at this
            omega
          have dm : (j * W + i) / W = j ∧ (j * W + i) % W = i := by
            rw [Nat.add_comm]
            exact ⟨by rw [Nat.add_mul_div_right i j (by omega), Nat.div_eq_of_lt hiW, Nat.zero_add], by rw [Nat.add_mul_mod_self_right, Nat.mod_eq_of_lt hiW]⟩
          refine Run.cut (Evp.of_eq (fun k => cdef_Block.p64804 k ..) ?_)
          rw [w64 (x := (X : Int) + W) (by omega)]
          refine Evp.dec (fun _ => ?_) fun g => absurd g (by omega)
          refine Evp.ob (sample_ok lo w h A R c cr xs T' (X + i) (Y + j) p M2 (hx.pre q) (hR.pre hp) bx tb (by omega) (by omega) n1 (by omega) (by omega)) ?_
          rintro _ rfl
          simp only [ret_int, ret_bool, ret_flt, ret_slc, ret_str, ret_ptr, ret_agg, ret_tup, ob_some, bb_true, bb_false, List.getElem?_cons_zero, List.getElem?_cons_succ, List.length_cons, List.length_nil, Nat.reduceAdd, Nat.reduceLT]
          obtain ⟨⟨sa, sn, sc⟩, M3, e3, g3, hsn, p3, _, k3⟩ := hg.app (lo := lo) (bytes := 1) (c := cb) (m := 1) (vs := [.int .u8 (sampS w h xs ((X + i : Nat) : Int) ((Y + j : Nat) : Int) p T')]) hp (Nat.le_trans hlo p1.len) rfl (by omega) (by omega)
          refine Evp.some e3 ?_
          simp only at hsn g3 k3
          subst hsn
          rw [w64 (by omega), show ((X + i : Nat) : Int) + 1 = ((X + (i + 1) : Nat) : Int) by omega]
          refine Evp.ret (ih2 (i + 1) sa sc M3 (by omega) (by omega) p3 (k3 hc) ?_)
          rw [show j * W + (i + 1) = j * W + i + 1 by omega, blockS_succ, dm.1, dm.2, List.map_append]
          exact g3
      refine Run.cut (Evp.of_eq (fun k => cdef_Block.p1012 k ..) ?_)
      rw [w64 (x := (Y : Int) + H) (by omega)]
      refine Evp.dec (fun _ => ?_) fun g => absurd g (by omega)
      exact Evp.ret (cols _ 0 B cb M2 rfl (by omega) hp hc hg)
  have g0 : Grow M1 (M1 ++ [⟨.op 1, []⟩] : Mem) 1 (some ⟨M1.length, 0, some 0⟩) 0 [] := ⟨rfl, .inr ⟨M1.length, rfl, Nat.le_refl _, by simp⟩⟩
  have R0 := rows H 0 (some ⟨M1.length, 0, some 0⟩) 0 (M1 ++ [⟨.op 1, []⟩] : Mem) rfl (by omega) (Pre.app _ _) (by omega) (by rw [Nat.zero_mul]; exact g0)
  rw [Nat.zero_mul, Nat.add_zero] at R0
  refine Evp.ret (R0.mono ?_)
  rintro r ⟨pr, A', c', e, hc, hg⟩
  refine ⟨pr, ?_⟩
  rw [if_pos ok]
  simp only [Int.toNat_natCast]
  rw [← hT']
  exact ⟨A', c', e, hc, hg⟩
end
end Go.Zt
