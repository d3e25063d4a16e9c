/- The document's Direction; CdefDirections. -/
import Derived.Test.YtkbdmbjhgomaiaaFg
set_option linter.unusedVariables false
set_option linter.unusedSimpArgs false
set_option maxRecDepth 100000
namespace Go.Zt
theorem number_ok (lo d r c : Nat) (M : Mem) (hd : d < 8) (hr : r < 8) (hc : c < 8) : Ac P T lo F.zoetroperef23_number [.int .i64 d, .int .i64 r, .int .i64 c] M fun q => q = (.int .i64 (numS d r c : Nat), M) := by
  have dr : Int.tdiv (r : Int) 2 = ((r / 2 : Nat) : Int) := rfl
  have dc : Int.tdiv (c : Int) 2 = ((c / 2 : Nat) : Int) := rfl
  refine Ac.of (Evp.of_eq (fun k => zoetroperef23_number.entry k ..) ?_)
  rw [dr, dc, w64 (x := ((c / 2 : Nat) : Int)) (by omega), w64 (x := ((r / 2 : Nat) : Int)) (by omega), w64 (x := (r : Int) + c) (by omega), w64 (x := (r : Int) + ((c / 2 : Nat) : Int)) (by omega), w64 (x := 3 + (r : Int)) (by omega), w64 (x := 3 + (r : Int) - ((c / 2 : Nat) : Int)) (by omega), w64 (x := 7 + (r : Int)) (by omega), w64 (x := 7 + (r : Int) - c) (by omega), w64 (x := 3 - ((r / 2 : Nat) : Int)) (by omega), w64 (x := 3 - ((r / 2 : Nat) : Int) + c) (by omega), w64 (x := ((r / 2 : Nat) : Int) + c) (by omega)]
  have ret : ∀ z : Int, z = (numS d r c : Nat) → Evp (fun k => some (.ret (.int .i64 z) M)) fun out => Run P T lo F.zoetroperef23_number out fun q => q = (.int .i64 (numS d r c : Nat), M) := fun z hz => Evp.ret (Run.ret (by rw [hz]))
  unfold numS at ret
  refine Evp.eqb (fun h => ret _ (by rw [if_pos (by omega)]; omega)) fun h0 => ?_
  refine Evp.eqb (fun h => ret _ (by rw [if_neg (by omega), if_pos (by omega)]; omega)) fun h1 => ?_
  refine Evp.eqb (fun h => ret _ (by rw [if_neg (by omega), if_neg (by omega), if_pos (by omega)])) fun h2 => ?_
  refine Evp.eqb (fun h => ret _ (by rw [if_neg (by omega), if_neg (by omega), if_neg (by omega), if_pos (by omega)]; omega)) fun h3 => ?_
  refine Evp.eqb (fun h => ret _ (by rw [if_neg (by omega), if_neg (by omega), if_neg (by omega), if_neg (by omega), if_pos (by omega)]; omega)) fun h4 => ?_
  refine Evp.eqb (fun h => ret _ (by rw [if_neg (by omega), if_neg (by omega), if_neg (by omega), if_neg (by omega), if_neg (by omega), if_pos (by omega)]; omega)) fun h5 => ?_
  refine Evp.eqb (fun h => ret _ (by rw [if_neg (by omega), if_neg (by omega), if_neg (by omega), if_neg (by omega), if_neg (by omega), if_neg (by omega), if_pos (by omega)])) fun h6 => ?_
  exact ret _ (by rw [if_neg (by omega), if_neg (by omega), if_neg (by omega), if_neg (by omega), if_neg (by omega), if_neg (by omega), if_neg (by omega)]; omega)
section
variable (lo : Nat) (A : Option Addr) (c : Nat) (b : List Int) (M0 : Mem) (hlo : lo ≤ M0.length) (hx : RdI M0 .u8 A b) (bb : Bytes b) (hl : b.length = 64) (d : Nat) (hd : d < 8)
include hlo hx bb hl hd
theorem weight_ok : Ac P T lo F.zoetroperef23_weight [.slice A 64 c, .int .i64 d] M0 fun r => ∃ M', r = (.int .i64 (wgtD b d 16), M') ∧ Pre M0 M' := by
  have sums : ∀ (a m : Addr) (L K : List Int) (M : Mem), L.length = 16 → K.length = 16 → (∀ k, k < 16 → L.getD k 0 = sumD b d k 64) → (∀ k, k < 16 → K.getD k 0 = manyD d k 64) → Pre M0 M → RdI M .i64 (some a) L → RdI M .i64 (some m) K → ∀ (e k : Nat), 16 - k = e → k ≤ 16 →
      Run P T lo F.zoetroperef23_weight (zoetroperef23_weight.c1012 (some a) 16 16 (some m) 16 16 (wgtD b d k) k M) fun r => ∃ M', r = (.int .i64 (wgtD b d 16), M') ∧ Pre M0 M' := by
    intro a m L K M lL lK hL hK hp rL rK e
    induction e with
    | zero =>
      intro k he hk
      obtain rfl : k = 16 := by omega
      refine Run.cut (Evp.of_eq (fun k => zoetroperef23_weight.p1012 k ..) ?_)
      exact Evp.dec (fun g => absurd g (by omega)) fun _ => Evp.ret (Run.ret ⟨M, rfl, hp⟩)
    | succ e ih =>
      intro k he hk
      have hk16 : k < 16 := by omega
      have s := sumD_le bb d k 64
      have q := sq_le (s := sumD b d k 64) (by omega)
      have m' := manyD_le d k 64
      have wl := wgtD_le bb d k
      have tl := term_le bb d k
      have nx : ∀ z : Int, z = wgtD b d (k + 1) → Run P T lo F.zoetroperef23_weight (zoetroperef23_weight.c4051 (some a) 16 16 (some m) 16 16 z k M) fun r => ∃ M', r = (.int .i64 (wgtD b d 16), M') ∧ Pre M0 M' := fun z hz => by
        subst hz
        refine Run.cut (Evp.of_eq (fun k => zoetroperef23_weight.p4051 k ..) ?_)
        rw [w64 (by omega)]
        exact Evp.ret (ih (k + 1) (by omega) (by omega))
      refine Run.cut (Evp.of_eq (fun k => zoetroperef23_weight.p1012 k ..) ?_)
      refine Evp.dec (fun _ => ?_) fun g => absurd g (by omega)
      refine Evp.pos (by omega) ?_
      simp only [Int.toNat_natCast]
      refine Evp.ldI rK (by omega) fun _ _ => ?_
      rw [hK k hk16]
      refine Evp.dec (fun g => ?_) fun g => Evp.ret (nx _ (by simp only [wgtD]; rw [if_pos (by omega), Int.add_zero]))
      have h0 : ¬ manyD d k 64 = 0 := by omega
      rw [if_neg h0] at tl
      refine Evp.pos (by omega) (Evp.ldI rL (by omega) fun _ _ => Evp.pos (by omega) (Evp.ldI rL (by omega) fun _ _ => Evp.pos (by omega) (Evp.ldI rK (by omega) fun _ _ => ?_)))
      rw [hL k hk16, hK k hk16]
      have dv : Int.tdiv 840 (manyD d k 64) = 840 / manyD d k 64 := Int.tdiv_eq_ediv_of_nonneg (by omega)
      have dl : 0 ≤ 840 / manyD d k 64 ∧ 840 / manyD d k 64 ≤ 840 := ⟨Int.ediv_nonneg (by omega) m'.1, Int.ediv_le_self _ (by omega)⟩
      refine Evp.neg h0 ?_
      rw [dv, w64 (x := sumD b d k 64 * sumD b d k 64) (by omega), w64 (x := 840 / manyD d k 64) (by omega), w64 (x := sumD b d k 64 * sumD b d k 64 * (840 / manyD d k 64)) (by omega), w64 (by omega)]
      exact Evp.ret (nx _ (by simp only [wgtD]; rw [if_neg h0]))
  have cols : ∀ (a m : Addr) (hne : a.block ≠ m.block) (r : Nat) (hr : r < 8) (next : ∀ (L K : List Int) (M : Mem), L.length = 16 → K.length = 16 → (∀ k, k < 16 → L.getD k 0 = sumD b d k (8 * (r + 1))) → (∀ k, k < 16 → K.getD k 0 = manyD d k (8 * (r + 1))) → Pre M0 M → Buf M0 M a (L.map (Value.int .i64)) → Buf M0 M m (K.map (Value.int .i64)) → Run P T lo F.zoetroperef23_weight (zoetroperef23_weight.c244 A 64 c d (some a) 16 16 (some m) 16 16 ((r + 1 : Nat) : Int) M) fun r => ∃ M', r = (.int .i64 (wgtD b d 16), M') ∧ Pre M0 M') ,
      ∀ (e x : Nat) (L K : List Int) (M : Mem), 8 - x = e → x ≤ 8 → L.length = 16 → K.length = 16 → (∀ k, k < 16 → L.getD k 0 = sumD b d k (8 * r + x)) → (∀ k, k < 16 → K.getD k 0 = manyD d k (8 * r + x)) → Pre M0 M → Buf M0 M a (L.map (Value.int .i64)) → Buf M0 M m (K.map (Value.int .i64)) →
      Run P T lo F.zoetroperef23_weight (zoetroperef23_weight.c15652 A 64 c d (some a) 16 16 (some m) 16 16 r x M) fun r => ∃ M', r = (.int .i64 (wgtD b d 16), M') ∧ Pre M0 M' := by
    intro a m hne r hr next e
    induction e with
    | zero =>
      intro x L K M he hx8 lL lK hL hK hp bL bK
      obtain rfl : x = 8 := by omega
      refine Run.cut (Evp.of_eq (fun k => zoetroperef23_weight.p15652 k ..) ?_)
      refine Evp.dec (fun g => absurd g (by omega)) fun _ => ?_
      rw [w64 (by omega)]
      rw [show 8 * r + 8 = 8 * (r + 1) by omega] at hL hK
      exact Evp.ret (next L K M lL lK hL hK hp bL bK)
    | succ e ih =>
      intro x L K M he hx8 lL lK hL hK hp bL bK
      have hx' : x < 8 := by omega
      have hn := numS_lt (d := d) hr hx'
      have e1 : (8 * r + x) / 8 = r := by omega
      have e2 : (8 * r + x) % 8 = x := by omega
      have g0 := hL (numS d r x) hn
      have g1 := hK (numS d r x) hn
      have s0 := sumD_le bb d (numS d r x) (8 * r + x)
      have m0 := manyD_le d (numS d r x) (8 * r + x)
      have bi := bb.get (8 * r + x)
      have stepS : ∀ k, sumD b d k (8 * r + (x + 1)) = sumD b d k (8 * r + x) + (if numS d r x = k then b.getD (8 * r + x) 0 - 128 else 0) := fun k => by
        rw [show 8 * r + (x + 1) = 8 * r + x + 1 by omega]
        simp only [sumD]
        rw [e1, e2]
      have stepM : ∀ k, manyD d k (8 * r + (x + 1)) = manyD d k (8 * r + x) + (if numS d r x = k then 1 else 0) := fun k => by
        rw [show 8 * r + (x + 1) = 8 * r + x + 1 by omega]
        simp only [manyD]
        rw [e1, e2]
      refine Run.cut (Evp.of_eq (fun k => zoetroperef23_weight.p15652 k ..) ?_)
      refine Evp.dec (fun _ => ?_) fun g => absurd g (by omega)
      refine Evp.ob (number_ok lo d r x M hd hr hx') ?_
      rintro _ rfl
      simp only [ret_int, ret_bool, ret_flt, ret_slc, ret_str, ret_ptr, ret_agg, ret_tup, ob_some, bb_true, bb_false, List.getElem?_cons_zero, List.getElem?_cons_succ, List.length_cons, List.length_nil, Nat.reduceAdd, Nat.reduceLT]
      generalize numS d r x = k0 at *
      refine Evp.pos (by omega) ?_
      simp only [Int.toNat_natCast]
      refine Evp.ldI bL.rdI (by omega) fun _ _ => ?_
      rw [w64 (x := 8 * (r : Int)) (by omega), w64 (x := 8 * (r : Int) + x) (by omega), show 8 * (r : Int) + x = ((8 * r + x : Nat) : Int) by omega]
      refine Evp.pos (by omega) ?_
      simp only [Int.toNat_natCast]
      refine Evp.ldI (hx.pre hp) (by omega) fun _ _ => ?_
      refine Evp.pos (by omega) (Evp.some rfl ?_)
      rw [w64 (x := b.getD (8 * r + x) 0) (by omega), w64 (x := L.getD k0 0 + b.getD (8 * r + x) 0) (by omega), w64 (x := L.getD k0 0 + b.getD (8 * r + x) 0 - 128) (by omega)]
      obtain ⟨M1, h1, h2, h3, h4, _⟩ := bL.st (lo := lo) (i := k0) (vs := [.int .i64 (L.getD k0 0 + b.getD (8 * r + x) 0 - 128)]) hp hlo (by simp; omega)
      refine Evp.some h1 ?_
      rw [setL_one, set_map] at h2
      have bK1 := bK.keep h4 (fun a' e => by injection e with e; subst e; exact hne)
      refine Evp.pos (by omega) (Evp.ldI bK1.rdI (by omega) fun _ _ => ?_)
      refine Evp.pos (by omega) (Evp.some rfl ?_)
      rw [w64 (x := K.getD k0 0 + 1) (by omega)]
      obtain ⟨M2, j1, j2, j3, j4, _⟩ := bK1.st (lo := lo) (i := k0) (vs := [.int .i64 (K.getD k0 0 + 1)]) h3 hlo (by simp; omega)
      refine Evp.some j1 ?_
      rw [setL_one, set_map] at j2
      have bL2 := h2.keep j4 (fun a' e => by injection e with e; subst e; exact Ne.symm hne)
      rw [w64 (by omega)]
      refine Evp.ret (ih (x + 1) _ _ M2 (by omega) (by omega) (by simpa using lL) (by simpa using lK) (fun k hk => ?_) (fun k hk => ?_) j3 bL2 j2)
      · rw [getD_set (by omega), stepS]
        by_cases g : k = k0
        · subst g; rw [if_pos rfl, if_pos rfl, g0]; omega
        · rw [if_neg g, if_neg (fun e => g e.symm), hL k hk, Int.add_zero]
      · rw [getD_set (by omega), stepM]
        by_cases g : k = k0
        · subst g; rw [if_pos rfl, if_pos rfl, g1]
        · rw [if_neg g, if_neg (fun e => g e.symm), hK k hk, Int.add_zero]
  have rows : ∀ (a m : Addr) (hne : a.block ≠ m.block) (e r : Nat) (L K : List Int) (M : Mem), 8 - r = e → r ≤ 8 → L.length = 16 → K.length = 16 → (∀ k, k < 16 → L.getD k 0 = sumD b d k (8 * r)) → (∀ k, k < 16 → K.getD k 0 = manyD d k (8 * r)) → Pre M0 M → Buf M0 M a (L.map (Value.int .i64)) → Buf M0 M m (K.map (Value.int .i64)) →
      Run P T lo F.zoetroperef23_weight (zoetroperef23_weight.c244 A 64 c d (some a) 16 16 (some m) 16 16 r M) fun r => ∃ M', r = (.int .i64 (wgtD b d 16), M') ∧ Pre M0 M' := by
    intro a m hne e
    induction e with
    | zero =>
      intro r L K M he hr lL lK hL hK hp bL bK
      obtain rfl : r = 8 := by omega
      refine Run.cut (Evp.of_eq (fun k => zoetroperef23_weight.p244 k ..) ?_)
      refine Evp.dec (fun g => absurd g (by omega)) fun _ => ?_
      exact Evp.ret (sums a m L K M lL lK hL hK hp bL.rdI bK.rdI 16 0 rfl (by omega))
    | succ e ih =>
      intro r L K M he hr lL lK hL hK hp bL bK
      refine Run.cut (Evp.of_eq (fun k => zoetroperef23_weight.p244 k ..) ?_)
      refine Evp.dec (fun _ => ?_) fun g => absurd g (by omega)
      exact Evp.ret (cols a m hne r (by omega) (fun L K M lL lK hL hK hp bL bK => ih (r + 1) L K M (by omega) (by omega) lL lK hL hK hp bL bK) 8 0 L K M rfl (by omega) lL lK hL hK hp bL bK)
  have z16 : zerosL [.int .i64 0] 16 = (List.replicate 16 (0 : Int)).map (Value.int .i64) := rfl
  have z : ∀ k, k < 16 → (List.replicate 16 (0 : Int)).getD k 0 = 0 := fun i hi => by rw [List.getD_eq_getElem?_getD, List.getElem?_replicate, if_pos hi]; rfl
  refine Ac.of (Evp.of_eq (fun k => zoetroperef23_weight.entry k ..) ?_)
  refine Evp.pos (by decide) (Evp.pos (by decide) ?_)
  rw [z16]
  have x1 := Pre.app M0 [⟨.fx, (List.replicate 16 (0 : Int)).map (Value.int .i64)⟩]
  have x2 := Pre.app (M0 ++ [⟨.fx, (List.replicate 16 (0 : Int)).map (Value.int .i64)⟩]) [⟨.fx, (List.replicate 16 (0 : Int)).map (Value.int .i64)⟩]
  have b1 : Buf M0 (M0 ++ [⟨.fx, (List.replicate 16 (0 : Int)).map (Value.int .i64)⟩] : Mem) ⟨M0.length, 0, none⟩ ((List.replicate 16 (0 : Int)).map (Value.int .i64)) := Buf.push (Pre.refl _)
  exact Evp.ret (rows ⟨M0.length, 0, none⟩ ⟨(M0 ++ [⟨.fx, (List.replicate 16 (0 : Int)).map (Value.int .i64)⟩] : Mem).length, 0, none⟩ (by simp) 8 0 _ _ _ rfl (by omega) List.length_replicate List.length_replicate (fun k hk => by rw [z k hk]; rfl) (fun k hk => by rw [z k hk]; rfl) (x1.trans x2) (b1.pre x2) (Buf.push x1))
end
theorem rdirection_ok (lo : Nat) (A : Option Addr) (c : Nat) (b : List Int) (M : Mem) (hlo : lo ≤ M.length) (hx : RdI M .u8 A b) (bb : Bytes b) : Ac P T lo F.zoetroperef23_Direction [.slice A b.length c] M fun r => ∃ M', Pre M M' ∧ r = (if b.length = 64 then .tuple ⟨[.int .i64 (bestD b 8 : Nat), .int .i64 (strD b), .int .i64 0]⟩ else .tuple ⟨[.int .i64 0, .int .i64 0, .int .i64 2]⟩, M') := by
  refine Ac.of (Evp.of_eq (fun k => zoetroperef23_Direction.entry k ..) ?_)
  refine Evp.neb (fun h => Evp.ret (Run.ret ⟨M, Pre.refl M, by rw [if_neg (by omega)]⟩)) fun h => ?_
  have hl : b.length = 64 := by omega
  rw [if_pos hl, hl]
  have loop : ∀ (e d : Nat) (M1 : Mem), 8 - d = e → 1 ≤ d → d ≤ 8 → Pre M M1 → Run P T lo F.zoetroperef23_Direction (zoetroperef23_Direction.c244 A 64 c (bestD b d : Nat) d M1) fun r => ∃ M', Pre M M' ∧ r = (.tuple ⟨[.int .i64 (bestD b 8 : Nat), .int .i64 (strD b), .int .i64 0]⟩, M') := by
    intro e
    induction e with
    | zero =>
      intro d M1 he h1 hd hp
      obtain rfl : d = 8 := by omega
      have bl : bestD b 8 < 8 := bestD_lt b 8
      refine Run.cut (Evp.of_eq (fun k => zoetroperef23_Direction.p244 k ..) ?_)
      refine Evp.dec (fun g => absurd g (by omega)) fun _ => ?_
      refine Evp.ob (weight_ok lo A c b M1 (Nat.le_trans hlo hp.len) (hx.pre hp) bb hl _ bl) ?_
      rintro _ ⟨M2, rfl, p2⟩
      simp only [ret_int, ret_bool, ret_flt, ret_slc, ret_str, ret_ptr, ret_agg, ret_tup, ob_some, bb_true, bb_false, List.getElem?_cons_zero, List.getElem?_cons_succ, List.length_cons, List.length_nil, Nat.reduceAdd, Nat.reduceLT]
      have e4 : Int.tmod (IntKind.i64.wrap (((bestD b 8 : Nat) : Int) + 4)) 8 = (((bestD b 8 + 4) % 8 : Nat) : Int) := by
        rw [w64 (by omega)]; rfl
      rw [e4]
      refine Evp.ob (weight_ok lo A c b M2 (Nat.le_trans hlo (hp.trans p2).len) (hx.pre (hp.trans p2)) bb hl _ (Nat.mod_lt _ (by decide))) ?_
      rintro _ ⟨M3, rfl, p3⟩
      simp only [ret_int, ret_bool, ret_flt, ret_slc, ret_str, ret_ptr, ret_agg, ret_tup, ob_some, bb_true, bb_false, List.getElem?_cons_zero, List.getElem?_cons_succ, List.length_cons, List.length_nil, Nat.reduceAdd, Nat.reduceLT]
      have w1 := wgtD_le bb (bestD b 8) 16
      have w2 := wgtD_le bb ((bestD b 8 + 4) % 8) 16
      refine Evp.ret (Run.ret ⟨M3, (hp.trans p2).trans p3, ?_⟩)
      rw [w64 (by omega), shr_eq 10 (by decide)]
      rfl
    | succ e ih =>
      intro d M1 he h1 hd hp
      have bl : bestD b d < 8 := by have := bestD_lt b d; omega
      have nx : ∀ (z : Nat) (M2 : Mem), z = bestD b (d + 1) → Pre M M2 → Run P T lo F.zoetroperef23_Direction (zoetroperef23_Direction.c979 A 64 c (z : Nat) d M2) fun r => ∃ M', Pre M M' ∧ r = (.tuple ⟨[.int .i64 (bestD b 8 : Nat), .int .i64 (strD b), .int .i64 0]⟩, M') := fun z M2 hz hp2 => by
        subst hz
        refine Run.cut (Evp.of_eq (fun k => zoetroperef23_Direction.p979 k ..) ?_)
        rw [w64 (by omega)]
        exact Evp.ret (ih (d + 1) M2 (by omega) (by omega) (by omega) hp2)
      refine Run.cut (Evp.of_eq (fun k => zoetroperef23_Direction.p244 k ..) ?_)
      refine Evp.dec (fun _ => ?_) fun g => absurd g (by omega)
      refine Evp.ob (weight_ok lo A c b M1 (Nat.le_trans hlo hp.len) (hx.pre hp) bb hl d (by omega)) ?_
      rintro _ ⟨M2, rfl, p2⟩
      simp only [ret_int, ret_bool, ret_flt, ret_slc, ret_str, ret_ptr, ret_agg, ret_tup, ob_some, bb_true, bb_false, List.getElem?_cons_zero, List.getElem?_cons_succ, List.length_cons, List.length_nil, Nat.reduceAdd, Nat.reduceLT]
      refine Evp.ob (weight_ok lo A c b M2 (Nat.le_trans hlo (hp.trans p2).len) (hx.pre (hp.trans p2)) bb hl _ bl) ?_
      rintro _ ⟨M3, rfl, p3⟩
      simp only [ret_int, ret_bool, ret_flt, ret_slc, ret_str, ret_ptr, ret_agg, ret_tup, ob_some, bb_true, bb_false, List.getElem?_cons_zero, List.getElem?_cons_succ, List.length_cons, List.length_nil, Nat.reduceAdd, Nat.reduceLT]
      exact Evp.dec (fun g => Evp.ret (nx d M3 (by rw [bestD, if_pos g]) ((hp.trans p2).trans p3))) fun g => Evp.ret (nx (bestD b d) M3 (by rw [bestD, if_neg g]) ((hp.trans p2).trans p3))
  have b1 : bestD b 1 = 0 := by
    have := bestD_lt b 1
    omega
  have s := loop 7 1 M rfl (by omega) (by omega) (Pre.refl M)
  rw [b1] at s
  exact Evp.ret s
theorem CdefDirections_law (M : Mem) (vs : List Value) (hro : AllRo M) (hv : LaysArgs P M [22, 23] vs) : Ac P T M.length F.zoetropelaw23_CdefDirections vs M fun r => r.1 = .bool true := by
  obtain ⟨A, c, b, d, t, p, rfl, hc, hn, hx, wx, _⟩ := Arg.CdefDirections hv
  have bb : Bytes b := fun x hx => wf_u8 (wx x hx)
  refine Ac.of (Evp.of_eq (fun k => zoetropelaw23_CdefDirections.entry k ..) ?_)
  refine Evp.ob (copyBytes_ok M.length A c b M hx (by omega) (Nat.le_refl _)) ?_
  rintro _ ⟨B, c', M1, rfl, p1, _, k1⟩
  have rB : RdI M1 .u8 B b := k1.own.rd
  simp only [ret_int, ret_bool, ret_flt, ret_slc, ret_str, ret_ptr, ret_agg, ret_tup, ob_some, bb_true, bb_false, List.getElem?_cons_zero, List.getElem?_cons_succ, List.length_cons, List.length_nil, Nat.reduceAdd, Nat.reduceLT]
  obtain ⟨u, v, w, e1, e2⟩ : ∃ u v w : Int, (∀ r : Value × Mem, DirR b M1 r → r = (.tuple ⟨[.int .i64 u, .int .i64 v, .int .i64 w]⟩, M1)) ∧ (if b.length = 64 then Value.tuple ⟨[.int .i64 (bestD b 8 : Nat), .int .i64 (strD b), .int .i64 0]⟩ else .tuple ⟨[.int .i64 0, .int .i64 0, .int .i64 2]⟩) = .tuple ⟨[.int .i64 u, .int .i64 v, .int .i64 w]⟩ := by
    by_cases hl : b.length = 64
    · exact ⟨(bestD b 8 : Nat), strD b, 0, fun r h => by unfold DirR at h; rw [h, if_pos hl], by rw [if_pos hl]⟩
    · exact ⟨0, 0, 2, fun r h => by unfold DirR at h; rw [h, if_neg hl], by rw [if_neg hl]⟩
  have rd := rdirection_ok M.length A c b M1 p1.len (hx.pre p1) bb
  rw [e2] at rd
  refine Evp.ob (direction_ok M.length B c' b M1 rB bb) ?_
  intro r hr
  obtain rfl := e1 r hr
  simp only [ret_int, ret_bool, ret_flt, ret_slc, ret_str, ret_ptr, ret_agg, ret_tup, ob_some, bb_true, bb_false, List.getElem?_cons_zero, List.getElem?_cons_succ, List.length_cons, List.length_nil, Nat.reduceAdd, Nat.reduceLT]
  refine Evp.ob rd ?_
  rintro _ ⟨M2, p2, rfl⟩
  simp only [ret_int, ret_bool, ret_flt, ret_slc, ret_str, ret_ptr, ret_agg, ret_tup, ob_some, bb_true, bb_false, List.getElem?_cons_zero, List.getElem?_cons_succ, List.length_cons, List.length_nil, Nat.reduceAdd, Nat.reduceLT]
  refine Evp.eqb (fun _ => ?_) fun g => absurd rfl g
  refine Evp.eqb (fun _ => ?_) fun g => absurd rfl g
  refine Evp.eqb (fun _ => ?_) fun g => absurd rfl g
  refine Evp.ob (eqBytes_ok M2.length B A c' c b b M2 (rB.pre p2) (hx.pre (p1.trans p2)) (by omega)) ?_
  rintro _ rfl
  simp only [ret_int, ret_bool, ret_flt, ret_slc, ret_str, ret_ptr, ret_agg, ret_tup, ob_some, bb_true, bb_false, List.getElem?_cons_zero, List.getElem?_cons_succ, List.length_cons, List.length_nil, Nat.reduceAdd, Nat.reduceLT]
  refine Evp.tt (by simp) ?_
  refine Evp.ob (limit_ok M2.length d t p M2) ?_
  rintro _ rfl
  simp only [ret_int, ret_bool, ret_flt, ret_slc, ret_str, ret_ptr, ret_agg, ret_tup, ob_some, bb_true, bb_false, List.getElem?_cons_zero, List.getElem?_cons_succ, List.length_cons, List.length_nil, Nat.reduceAdd, Nat.reduceLT]
  refine Evp.ob (rlimit_ok M2.length d t p M2) ?_
  rintro _ rfl
  simp only [ret_int, ret_bool, ret_flt, ret_slc, ret_str, ret_ptr, ret_agg, ret_tup, ob_some, bb_true, bb_false, List.getElem?_cons_zero, List.getElem?_cons_succ, List.length_cons, List.length_nil, Nat.reduceAdd, Nat.reduceLT]
  refine Evp.eqb (fun _ => ?_) fun g => absurd rfl g
  refine Evp.ob (awake_ok M2.length M2 (Nat.le_refl _)) ?_
  rintro _ ⟨M3, rfl, p3⟩
  exact Evp.ret (Run.ret rfl)
end Go.Zt
