/- What is blended lies between both. -/
import Derived.Test.YtgpobephldelaaaFo
set_option linter.unusedVariables false
set_option linter.unusedSimpArgs false
set_option maxRecDepth 100000
namespace Go.Zt
theorem pS_comm (x y : Int) : pS x y = pS y x := by unfold pS; rw [Int.add_comm x y]
theorem pL_comm {xs ys : List Int} (hl : xs.length = ys.length) : pL xs ys = pL ys xs := ext_getD (by rw [pL_len, pL_len, hl]) fun i hi => by
  rw [pL_len] at hi
  rw [pL_get hi, pL_get (by omega), pS_comm]
theorem pL_self (xs : List Int) : pL xs xs = xs := ext_getD (by rw [pL_len]) fun i hi => by
  rw [pL_len] at hi
  rw [pL_get hi]; unfold pS; omega
theorem pS_between (x y : Int) : (x ≤ pS x y ∧ pS x y ≤ y) ∨ (y ≤ pS x y ∧ pS x y ≤ x) := by unfold pS; omega
theorem getD_take {xs : List Int} {n i : Nat} (h : i < n) : (xs.take n).getD i 0 = xs.getD i 0 := by
  rw [List.getD_eq_getElem?_getD, List.getD_eq_getElem?_getD, List.getElem?_take, if_pos h]
section
variable (lo : Nat) (A B : Option Addr) (c cb : Nat) (own other : List Int) (w x y rw' rh : Int) (M0 : Mem)
variable (hlo : lo ≤ M0.length) (hx : RdI M0 .u8 A own) (hy : RdI M0 .u8 B other) (bo : Bytes own) (bt : Bytes other) (hn : own.length ≤ 140737488351232)
include hx hy in
theorem spots_loop (D : Option Addr) (cd : Nat) (al : Bool) (w' h' x' y' W' H' : Nat) (rc : Rect w' h' x' y' W' H') (ho : own.length = h' * w') (ht : other.length = W' * H') (hN : 4 ≤ nA al W' H' ∧ nA al W' H' ≤ 32) (M : Mem) (hp : Pre M0 M) (hD : RdI M .u8 D (blS al own other w' x' y' W' H' (W' * H'))) :
    ∀ (d i : Nat), own.length - i = d → i ≤ own.length → Run P T lo F.zoetropelaw15_MotionBetween (zoetropelaw15_MotionBetween.c131060 D own.length cd i A own.length c w' x' y' W' H' B other.length cb M) fun r => r.1 = .bool true := by
  have sm := small_mul rc.h2 rc.w2
  have hw := rc.w1; have hw2 := rc.w2; have hh := rc.h2; have hX := rc.x; have hY := rc.y; have hW := rc.rw; have hH := rc.rh
  intro d
  induction d with
  | zero =>
    intro i hd hi
    refine Run.cut (Evp.of_eq (fun k => zoetropelaw15_MotionBetween.p131060 k ..) ?_)
    refine Evp.dec (fun h => absurd h (by omega)) fun _ => Evp.ret (Run.ret rfl)
  | succ d ih =>
    intro i hd hi
    have next : Run P T lo F.zoetropelaw15_MotionBetween (zoetropelaw15_MotionBetween.c524243 D own.length cd i A own.length c w' x' y' W' H' B other.length cb M) fun r => r.1 = .bool true := by
      refine Run.cut (Evp.of_eq (fun k => zoetropelaw15_MotionBetween.p524243 k ..) ?_)
      rw [w64 (by omega)]
      exact Evp.ret (ih (i + 1) (by omega) (by omega))
    have bl := bl_len al own other w' x' y' W' H' (W' * H')
    have bg := bl_get al (own := own) (other := other) rc ho i (W' * H') (Nat.le_refl _)
    have out : ¬ inR w' x' y' W' H' i → Evp (fun kk => pb (0 ≤ (i : Int) ∧ (i : Int) < ((own.length : Nat) : Int)) (ob D fun a52 => ob ((M.ld (plus a52 (i : Int).toNat)).bind (Value.int? .u8)) fun x53 => pb (0 ≤ (i : Int) ∧ (i : Int) < ((own.length : Nat) : Int)) (ob A fun a54 => ob ((M.ld (plus a54 (i : Int).toNat)).bind (Value.int? .u8)) fun x55 =>
        bb (x53 != x55) (some (.ret (.bool false) M)) (some (zoetropelaw15_MotionBetween.c524243 D own.length cd i A own.length c w' x' y' W' H' B other.length cb M))) none) none) fun out => Run P T lo F.zoetropelaw15_MotionBetween out fun r => r.1 = .bool true := fun hni => by
      refine Evp.pos (by omega) ?_
      simp only [Int.toNat_natCast]
      refine Evp.ldI hD (by omega) fun _ _ => ?_
      refine Evp.pos (by omega) (Evp.ldI (hx.pre hp) (by omega) fun _ _ => ?_)
      rw [bg, if_neg (fun e => hni e.1)]
      refine Evp.neb (fun h => absurd rfl h) fun _ => Evp.ret next
    have e1 : Int.tmod (i : Int) (w' : Int) = ((i % w' : Nat) : Int) := rfl
    have e2 : Int.tdiv (i : Int) (w' : Int) = ((i / w' : Nat) : Int) := rfl
    have m1 : i % w' < w' := Nat.mod_lt _ (by omega)
    have m2 : i / w' < h' := Nat.div_lt_of_lt_mul (by rw [Nat.mul_comm]; omega)
    refine Run.cut (Evp.of_eq (fun k => zoetropelaw15_MotionBetween.p131060 k ..) ?_)
    refine Evp.dec (fun _ => ?_) fun h => absurd h (by omega)
    refine Evp.neg (by omega) (Evp.neg (by omega) ?_)
    rw [e1, e2]
    have g1 : IntKind.i64.wrap (((i % w' : Nat) : Int) - (x' : Int)) = ((i % w' : Nat) : Int) - (x' : Int) := by generalize i % w' = q at *; exact w64 (by omega)
    have g0 : IntKind.i64.wrap ((i / w' : Nat) : Int) = ((i / w' : Nat) : Int) := by generalize i / w' = q at *; exact w64 (by omega)
    have g2 : IntKind.i64.wrap (((i / w' : Nat) : Int) - (y' : Int)) = ((i / w' : Nat) : Int) - (y' : Int) := by generalize i / w' = q at *; exact w64 (by omega)
    rw [g1, g0, g2]
    refine Evp.dec (fun h => out fun e => ?_) fun h1 => ?_
    · have := e.1; generalize i % w' = q at *; omega
    refine Evp.dec (fun h => out fun e => ?_) fun h2 => ?_
    · have := e.2.1; generalize i % w' = q at *; omega
    refine Evp.dec (fun h => out fun e => ?_) fun h3 => ?_
    · have := e.2.2.1; generalize i / w' = q at *; omega
    refine Evp.dec (fun h => out fun e => ?_) fun h4 => ?_
    · have := e.2.2.2; generalize i / w' = q at *; omega
    have hin : inR w' x' y' W' H' i := by
      unfold inR
      generalize i / w' = q at *
      generalize i % w' = s at *
      omega
    obtain ⟨_, i2, _, _⟩ := at_inv rc hin
    rw [if_pos ⟨hin, i2⟩] at bg
    have ei : IntKind.i64.wrap ((IntKind.i64.wrap ((((i / w' : Nat) : Int) - (y' : Int)) * (W' : Int))) + (((i % w' : Nat) : Int) - (x' : Int))) = ((invR w' x' y' W' i : Nat) : Int) := by
      have sm2 := small_mul (a := W') (b := H') (by omega) (by omega)
      unfold invR at *
      obtain ⟨q1, q2, q3, q4⟩ := hin
      generalize i / w' = q at *
      generalize i % w' = s at *
      rw [← Int.natCast_sub q3, ← Int.natCast_mul, ← Int.natCast_sub q1, w64 (x := (((q - y') * W' : Nat) : Int)) (by omega), w64 (by omega)]
      omega
    rw [ei]
    refine Evp.pos (by omega) ?_
    simp only [Int.toNat_natCast]
    refine Evp.ldI hD (by omega) fun _ _ => ?_
    refine Evp.pos (by omega) (Evp.ldI (hx.pre hp) (by omega) fun _ _ => ?_)
    refine Evp.pos (pos_i (by omega)) ?_
    refine Evp.ldI (hy.pre hp) (by omega) fun _ _ => ?_
    refine Evp.ob (between_ok ..) ?_
    rintro _ rfl
    simp only [ret_int, ret_bool, ret_flt, ret_slc, ret_str, ret_ptr, ret_agg, ret_tup, ob_some, bb_true, bb_false, List.getElem?_cons_zero, List.getElem?_cons_succ, List.length_cons, List.length_nil, Nat.reduceAdd, Nat.reduceLT]
    have kk := wS_le (al_lt (al := al) (W := W') (H := H') i2 hW)
    have bt' := mix_between (k := wS (nA al W' H') (alS al W' (invR w' x' y' W' i))) (a := own.getD i 0) (b := other.getD (invR w' x' y' W' i) 0) kk
    rw [bg]
    refine Evp.ff (by rw [decide_eq_true bt']; rfl) (Evp.ret next)
include hx hy hn in
theorem last_ok (al : Bool) (M : Mem) (hp : Pre M0 M) (r : Value × Mem) (hr : BlendR al M own other w x y rw' rh r) :
    ∃ (l : List Int) (e : Int) (D : Option Addr) (cd : Nat) (M' : Mem), r = (.tuple ⟨[.slice D l.length cd, .int .i64 e]⟩, M') ∧ Pre M M' ∧
      ∀ M2, Pre M' M2 → Run P T lo F.zoetropelaw15_MotionBetween (zoetropelaw15_MotionBetween.c2047 D l.length cd e A own.length c w x y rw' rh B other.length cb M2) fun r => r.1 = .bool true := by
  obtain ⟨v, M'⟩ := r
  by_cases hk : LiesP own.length w x y rw' rh ∧ (4 ≤ (if al then rh else rw') ∧ (if al then rh else rw') ≤ 32) ∧ (other.length : Int) = rw' * rh
  · obtain ⟨D, cd, rfl, p, _, o⟩ := hr.got hk
    obtain ⟨hl, h4, ht⟩ := hk
    obtain ⟨w', h', x', y', W', H', rfl, rfl, rfl, rfl, rfl, e1, rc⟩ := lies_nat hl
    have sm := small_mul (a := W') (b := H') (by have := rc.x; have := rc.w2; omega) (by have := rc.y; have := rc.h2; omega)
    have em : (W' : Int) * (H' : Int) = ((W' * H' : Nat) : Int) := by rw [Int.natCast_mul]
    have en : (if al then (H' : Int) else (W' : Int)) = ((nA al W' H' : Nat) : Int) := by unfold nA; cases al <;> rfl
    rw [en] at h4
    rw [em] at ht
    have ht : other.length = W' * H' := by omega
    simp only [Int.toNat_natCast] at o
    rw [ht] at o
    have bl := bl_len al own other w' x' y' W' H' (W' * H')
    refine ⟨blS al own other w' x' y' W' H' (W' * H'), 0, D, cd, M', by rw [bl], p, fun M2 p2 => ?_⟩
    rw [bl]
    refine Run.cut (Evp.of_eq (fun k => zoetropelaw15_MotionBetween.p2047 k ..) ?_)
    refine Evp.neb (fun h => absurd rfl h) fun _ => ?_
    refine Evp.dec (fun h => absurd h (by have := rc.w1; omega)) fun _ => ?_
    refine Evp.neb (fun h => absurd rfl h) fun _ => ?_
    rw [em, w64 (by omega)]
    refine Evp.neb (fun h => absurd (by rw [ht]) h) fun _ => ?_
    exact Evp.ret (spots_loop lo A B c cb own other M0 hx hy D cd al w' h' x' y' W' H' rc e1 ht (by omega) M2 ((hp.trans p).trans p2) (o.rd.pre p2) _ 0 rfl (by omega))
  · obtain ⟨rfl, p⟩ := hr.not hk
    refine ⟨[], 2, none, 0, M', rfl, p, fun M2 p2 => ?_⟩
    refine Run.cut (Evp.of_eq (fun k => zoetropelaw15_MotionBetween.p2047 k ..) ?_)
    exact Evp.tt rfl (Evp.tt rfl (Evp.ret (Run.ret rfl)))
include hlo hx hy bo bt hn in
theorem between_loop (left : Bool) (D : Option Addr) (cd n : Nat) (hn1 : n ≤ own.length) (hn2 : n ≤ other.length) (M1 : Mem) (hp1 : Pre M0 M1) (hD : RdI M1 .u8 D (pL (own.take n) (other.take n))) : ∀ (d i : Nat), n - i = d → i ≤ n →
    Run P T lo F.zoetropelaw15_MotionBetween (zoetropelaw15_MotionBetween.c4084 left n D n cd i A own.length c w x y rw' rh B other.length cb M1) fun r => r.1 = .bool true := by
  intro d
  have ll : (pL (own.take n) (other.take n)).length = n := by rw [pL_len]; simp; omega
  induction d with
  | zero =>
    intro i hd hi
    refine Run.cut (Evp.of_eq (fun k => zoetropelaw15_MotionBetween.p4084 k ..) ?_)
    refine Evp.dec (fun h => absurd h (by omega)) fun _ => ?_
    refine Evp.ob (above_ok lo A B c cb own other M1 w x y rw' rh (Nat.le_trans hlo hp1.len) (hx.pre hp1) (hy.pre hp1) bo bt hn) ?_
    intro r hr
    obtain ⟨l, e, D', cd', M2, rfl, p2, hf⟩ := last_ok lo A B c cb own other w x y rw' rh M0 hx hy hn true M1 hp1 r hr
    simp only [ret_int, ret_bool, ret_flt, ret_slc, ret_str, ret_ptr, ret_agg, ret_tup, ob_some, bb_true, bb_false, List.getElem?_cons_zero, List.getElem?_cons_succ, List.length_cons, List.length_nil, Nat.reduceAdd, Nat.reduceLT]
    refine Evp.bb (fun _ => ?_) fun _ => Evp.ret (hf M2 (Pre.refl _))
    have q2 := hp1.trans p2
    refine Evp.ob (left_ok lo A B c cb own other M2 w x y rw' rh (Nat.le_trans hlo q2.len) (hx.pre q2) (hy.pre q2) bo bt hn) ?_
    intro r hr
    obtain ⟨l', e', D2, cd2, M3, rfl, p3, hf2⟩ := last_ok lo A B c cb own other w x y rw' rh M0 hx hy hn false M2 q2 r hr
    simp only [ret_int, ret_bool, ret_flt, ret_slc, ret_str, ret_ptr, ret_agg, ret_tup, ob_some, bb_true, bb_false, List.getElem?_cons_zero, List.getElem?_cons_succ, List.length_cons, List.length_nil, Nat.reduceAdd, Nat.reduceLT]
    exact Evp.ret (hf2 M3 (Pre.refl _))
  | succ d ih =>
    intro i hd hi
    refine Run.cut (Evp.of_eq (fun k => zoetropelaw15_MotionBetween.p4084 k ..) ?_)
    refine Evp.dec (fun _ => ?_) fun h => absurd h (by omega)
    refine Evp.pos (by omega) ?_
    simp only [Int.toNat_natCast]
    refine Evp.ldI hD (by omega) fun _ _ => ?_
    refine Evp.pos (by omega) (Evp.ldI (hx.pre hp1) (by omega) fun _ _ => ?_)
    refine Evp.pos (by omega) (Evp.ldI (hy.pre hp1) (by omega) fun _ _ => ?_)
    refine Evp.ob (between_ok ..) ?_
    rintro _ rfl
    simp only [ret_int, ret_bool, ret_flt, ret_slc, ret_str, ret_ptr, ret_agg, ret_tup, ob_some, bb_true, bb_false, List.getElem?_cons_zero, List.getElem?_cons_succ, List.length_cons, List.length_nil, Nat.reduceAdd, Nat.reduceLT]
    have hg := pL_get (xs := own.take n) (ys := other.take n) (i := i) (by simp; omega)
    rw [getD_take (by omega), getD_take (by omega)] at hg
    have := pS_between (own.getD i 0) (other.getD i 0)
    refine Evp.ff (by rw [hg, decide_eq_true this]; rfl) ?_
    rw [w64 (by omega)]
    exact Evp.ret (ih (i + 1) (by omega) (by omega))
end
theorem slAddr_00 (B : Option Addr) (q : Nat) : slAddr 1 B 0 q = B := by
  unfold slAddr; split
  · rfl
  · cases B <;> rfl
theorem rd_take {M : Mem} {A : Option Addr} {xs : List Int} {n c : Nat} (h : RdI M .u8 A xs) (hn : n ≤ xs.length) (hc : xs.length ≤ c) : RdI M .u8 A (xs.take n) := by
  have := h.slAddr (l := 0) (h := n) (c := c) (by omega) hn hc
  rw [slAddr_00] at this
  simpa using this
theorem MotionBetween_law (M : Mem) (vs : List Value) (hro : AllRo M) (hv : LaysArgs P M [51, 4] vs) : Ac P T M.length F.zoetropelaw15_MotionBetween vs M fun r => r.1 = .bool true := by
  obtain ⟨A, c, own, w, x, y, rw', rh, B, cb, other, left, rfl, hc, n0, hx, wx, _, _, _, _, _, hcb, n1, hy, wy⟩ := Arg.MotionBetween hv
  have bx : Bytes own := fun x hx => wf_u8 (wx x hx)
  have by_ : Bytes other := fun x hx => wf_u8 (wy x hx)
  obtain ⟨n, hn⟩ : ∃ n : Nat, n = min own.length other.length := ⟨_, rfl⟩
  have em : minI (own.length : Int) (other.length : Int) = (n : Int) := by unfold minI; split <;> omega
  have l1 : (own.take n).length = n := by simp; omega
  have l2 : (other.take n).length = n := by simp; omega
  have ba : Bytes (own.take n) := fun z hz => bx z (List.mem_of_mem_take hz)
  have bb' : Bytes (other.take n) := fun z hz => by_ z (List.mem_of_mem_take hz)
  refine Ac.of (Evp.of_eq (fun k => zoetropelaw15_MotionBetween.entry k ..) ?_)
  refine Evp.ob (works_ok _ _ (Nat.le_refl _)) ?_
  rintro _ ⟨M1, rfl, p1⟩
  simp only [ret_int, ret_bool, ret_flt, ret_slc, ret_str, ret_ptr, ret_agg, ret_tup, ob_some, bb_true, bb_false, List.getElem?_cons_zero, List.getElem?_cons_succ, List.length_cons, List.length_nil, Nat.reduceAdd, Nat.reduceLT]
  refine Evp.ff rfl ?_
  rw [em]
  simp only [Int.toNat_natCast, Nat.sub_zero, slAddr_00]
  refine Evp.pos (by omega) (Evp.pos (by omega) ?_)
  have ra := rd_take (hx.pre p1) (n := n) (by omega) hc
  have rb := rd_take (hy.pre p1) (n := n) (by omega) hcb
  have c1 := pair_ok M.length A B c cb (own.take n) (other.take n) M1 p1.len ra rb ba bb' (by omega)
  rw [l1, l2] at c1
  refine Evp.ob c1 ?_
  rintro ⟨v, M2⟩ h2
  obtain ⟨D, cd, rfl, p2, _, o2⟩ := h2.got (by omega)
  rw [l1]
  simp only [ret_int, ret_bool, ret_flt, ret_slc, ret_str, ret_ptr, ret_agg, ret_tup, ob_some, bb_true, bb_false, List.getElem?_cons_zero, List.getElem?_cons_succ, List.length_cons, List.length_nil, Nat.reduceAdd, Nat.reduceLT]
  refine Evp.pos (by omega) (Evp.pos (by omega) ?_)
  have q2 := p1.trans p2
  have c2 := pair_ok M.length B A cb c (other.take n) (own.take n) M2 q2.len (rb.pre p2) (ra.pre p2) bb' ba (by omega)
  rw [l1, l2] at c2
  refine Evp.ob c2 ?_
  rintro ⟨v, M3⟩ h3
  obtain ⟨D', cd', rfl, p3, _, o3⟩ := h3.got (by omega)
  rw [l2]
  simp only [ret_int, ret_bool, ret_flt, ret_slc, ret_str, ret_ptr, ret_agg, ret_tup, ob_some, bb_true, bb_false, List.getElem?_cons_zero, List.getElem?_cons_succ, List.length_cons, List.length_nil, Nat.reduceAdd, Nat.reduceLT]
  have q3 := q2.trans p3
  refine Evp.ob (pair_ok M.length A A c c own own M3 q3.len (hx.pre q3) (hx.pre q3) bx bx (by omega)) ?_
  rintro ⟨v, M4⟩ h4
  obtain ⟨D2, cd2, rfl, p4, _, o4⟩ := h4.got rfl
  rw [pL_self] at o4
  simp only [ret_int, ret_bool, ret_flt, ret_slc, ret_str, ret_ptr, ret_agg, ret_tup, ob_some, bb_true, bb_false, List.getElem?_cons_zero, List.getElem?_cons_succ, List.length_cons, List.length_nil, Nat.reduceAdd, Nat.reduceLT]
  have q4 := q3.trans p4
  refine Evp.neb (fun h => absurd rfl h) fun _ => Evp.neb (fun h => absurd rfl h) fun _ => Evp.neb (fun h => absurd rfl h) fun _ => ?_
  have e1 := eqBytes_ok M.length D D' cd cd' (pL (own.take n) (other.take n)) (pL (other.take n) (own.take n)) M4 (o2.rd.pre (p3.trans p4)) (o3.rd.pre p4) (by rw [pL_len]; omega)
  rw [pL_len, pL_len, l1, l2] at e1
  refine Evp.ob e1 ?_
  rintro _ rfl
  simp only [ret_int, ret_bool, ret_flt, ret_slc, ret_str, ret_ptr, ret_agg, ret_tup, ob_some, bb_true, bb_false, List.getElem?_cons_zero, List.getElem?_cons_succ, List.length_cons, List.length_nil, Nat.reduceAdd, Nat.reduceLT]
  refine Evp.ff (by rw [decide_eq_true (pL_comm (by omega))]; rfl) ?_
  refine Evp.ob (eqBytes_ok M.length D2 A cd2 c own own M4 o4.rd (hx.pre q4) (by omega)) ?_
  rintro _ rfl
  simp only [ret_int, ret_bool, ret_flt, ret_slc, ret_str, ret_ptr, ret_agg, ret_tup, ob_some, bb_true, bb_false, List.getElem?_cons_zero, List.getElem?_cons_succ, List.length_cons, List.length_nil, Nat.reduceAdd, Nat.reduceLT]
  refine Evp.ff (by simp) ?_
  refine Evp.neb (fun h => absurd rfl h) fun _ => ?_
  exact Evp.ret (between_loop M.length A B c cb own other w x y rw' rh M (Nat.le_refl _) hx hy bx by_ (by omega) left D cd n (by omega) (by omega) M4 q4 (o2.rd.pre (p3.trans p4)) _ 0 rfl (by omega))
end Go.Zt
