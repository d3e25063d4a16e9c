/- Frames: sides, Frame, Whole, Coded. -/
import Derived.Test.YtkmakjapgkfdnaaFd
set_option linter.unusedVariables false
set_option linter.unusedSimpArgs false
set_option maxRecDepth 100000
namespace Go.Zt
def sideP (n : Int) : Prop := n % 2 = 0 ∧ 16 ≤ n ∧ n ≤ 256
instance (n : Int) : Decidable (sideP n) := inferInstanceAs (Decidable (_ ∧ _))
theorem sides_ok (lo : Nat) (w h : Int) (M : Mem) : Ac P T lo F.plane_sides [.int .i64 w, .int .i64 h] M fun r => r = (.bool (decide (sideP w ∧ sideP h)), M) := by
  have a1 : ∀ z : Int, andI .i64 z 1 = z % 2 := fun z => and_mask (x := z) 1 (by omega)
  have hmin : minI w h ≤ w ∧ minI w h ≤ h ∧ (minI w h = w ∨ minI w h = h) := by unfold minI; split <;> omega
  have hmax : w ≤ maxI w h ∧ h ≤ maxI w h ∧ (maxI w h = w ∨ maxI w h = h) := by unfold maxI; split <;> omega
  refine Ac.of (Evp.of_eq (fun k => plane_sides.entry k ..) ?_)
  rw [a1, a1]
  refine Evp.eqb (fun h1 => ?_) fun h1 => Evp.ret (Run.ret (by rw [decide_eq_false (fun e => h1 e.1.1)]))
  refine Evp.eqb (fun h2 => ?_) fun h2 => Evp.ret (Run.ret (by rw [decide_eq_false (fun e => h2 e.2.1)]))
  refine Evp.dec (fun h3 => ?_) fun h3 => Evp.ret (Run.ret (by rw [decide_eq_false (fun e => by unfold sideP at e; omega)]))
  refine Evp.ret (Run.ret ?_)
  congr 2
  exact decide_eq_decide.2 (by unfold sideP; omega)
theorem new_nat (lo : Nat) (w h : Nat) (v : Int) (M : Mem) (hlo : lo ≤ M.length) (hw : 1 ≤ w ∧ w ≤ 512) (hh : 1 ≤ h ∧ h ≤ 512) :
    Ac P T lo F.plane_New [.int .i64 w, .int .i64 h, .int .u8 v] M fun r => ∃ a M', r = (.tuple ⟨[.agg ⟨[.int .i64 w, .int .i64 h, .slice (some a) (w * h) (w * h)]⟩, .int .i64 0]⟩, M') ∧ Pre M M' ∧ Buf M M' a ((List.replicate (w * h) v).map (Value.int .u8)) := by
  refine Ac.mono (new_ok lo w h v M hlo) ?_
  rintro ⟨r, M'⟩ ⟨hp, h2⟩
  rw [if_pos (by omega), ← Int.natCast_mul] at h2
  simp only [Int.toNat_natCast] at h2
  obtain ⟨a, rfl, hb⟩ := h2
  exact ⟨a, M', rfl, hp, hb⟩
theorem Buf.in_ {M0 M : Mem} {a : Addr} {cs : List Value} (h : Buf M0 M a cs) : a.block < M.length := by
  obtain ⟨k, h1, h2, h3, h4⟩ := h
  exact (List.getElem?_eq_some_iff.1 h3).1
theorem frame_ok (lo : Nat) (w h : Nat) (v : Int) (M : Mem) (hlo : lo ≤ M.length) (hs : sideP w ∧ sideP h) :
    Ac P T lo F.plane_Frame [.int .i64 w, .int .i64 h, .int .u8 v] M fun r => ∃ a0 a1 a2 M', r = (.tuple ⟨[.agg ⟨[.int .i64 w, .int .i64 h, .slice (some a0) (w * h) (w * h), .int .i64 (w / 2 : Nat), .int .i64 (h / 2 : Nat), .slice (some a1) ((w / 2) * (h / 2)) ((w / 2) * (h / 2)), .int .i64 (w / 2 : Nat), .int .i64 (h / 2 : Nat), .slice (some a2) ((w / 2) * (h / 2)) ((w / 2) * (h / 2))]⟩, .int .i64 0]⟩, M') ∧ Pre M M' ∧
      Buf M M' a0 ((List.replicate (w * h) v).map (Value.int .u8)) ∧ Buf M M' a1 ((List.replicate ((w / 2) * (h / 2)) v).map (Value.int .u8)) ∧ Buf M M' a2 ((List.replicate ((w / 2) * (h / 2)) v).map (Value.int .u8)) ∧ a0.block ≠ a1.block ∧ a0.block ≠ a2.block ∧ a1.block ≠ a2.block := by
  have hs' := hs
  unfold sideP at hs'
  refine Ac.of (Evp.of_eq (fun k => plane_Frame.entry k ..) ?_)
  refine Evp.ob (sides_ok ..) ?_
  rintro _ rfl
  simp only [ret_int, ret_bool, ret_flt, ret_slc, ret_str, ret_ptr, ret_agg, ret_tup, ob_some, bb_true, bb_false, List.getElem?_cons_zero, List.getElem?_cons_succ, List.length_cons, List.length_nil, Nat.reduceAdd, Nat.reduceLT]
  refine Evp.ff (by rw [decide_eq_true hs]; rfl) ?_
  refine Evp.ret ?_
  refine Run.cut (Evp.of_eq (fun k => plane_Frame.p244 k ..) ?_)
  refine Evp.tt rfl ?_
  refine Evp.ob (new_nat lo w h v M hlo (by omega) (by omega)) ?_
  rintro _ ⟨a0, M1, rfl, p1, b0⟩
  simp only [ret_int, ret_bool, ret_flt, ret_slc, ret_str, ret_ptr, ret_agg, ret_tup, ob_some, bb_true, bb_false, List.getElem?_cons_zero, List.getElem?_cons_succ, List.length_cons, List.length_nil, Nat.reduceAdd, Nat.reduceLT]
  refine Evp.ff rfl (Evp.pos (by decide) (Evp.pos (Nat.le_of_ble_eq_true rfl) (Evp.tt rfl ?_)))
  have t1 : Int.tdiv ((w : Nat) : Int) 2 = ((w / 2 : Nat) : Int) := rfl
  have t2 : Int.tdiv ((h : Nat) : Int) 2 = ((h / 2 : Nat) : Int) := rfl
  rw [t1, t2, w64 (x := ((w / 2 : Nat) : Int)) (by omega), w64 (x := ((h / 2 : Nat) : Int)) (by omega)]
  refine Evp.ret ?_
  refine Run.cut (Evp.of_eq (fun k => plane_Frame.p1959 k ..) ?_)
  rw [show IntKind.i64.wrap (0 + 1) = 1 from by decide]
  refine Evp.ret ?_
  have l1 := p1.len
  refine Run.cut (Evp.of_eq (fun k => plane_Frame.p244 k ..) ?_)
  refine Evp.tt rfl ?_
  refine Evp.ob (new_nat lo (w / 2) (h / 2) v M1 (by omega) (by omega) (by omega)) ?_
  rintro _ ⟨a1, M2, rfl, p2, b1⟩
  simp only [ret_int, ret_bool, ret_flt, ret_slc, ret_str, ret_ptr, ret_agg, ret_tup, ob_some, bb_true, bb_false, List.getElem?_cons_zero, List.getElem?_cons_succ, List.length_cons, List.length_nil, Nat.reduceAdd, Nat.reduceLT]
  refine Evp.ff rfl (Evp.pos (by decide) (Evp.pos (Nat.le_of_ble_eq_true rfl) (Evp.ff rfl ?_)))
  refine Evp.ret ?_
  refine Run.cut (Evp.of_eq (fun k => plane_Frame.p1959 k ..) ?_)
  rw [show IntKind.i64.wrap (1 + 1) = 2 from by decide]
  refine Evp.ret ?_
  have l2 := p2.len
  refine Run.cut (Evp.of_eq (fun k => plane_Frame.p244 k ..) ?_)
  refine Evp.tt rfl ?_
  refine Evp.ob (new_nat lo (w / 2) (h / 2) v M2 (by omega) (by omega) (by omega)) ?_
  rintro _ ⟨a2, M3, rfl, p3, b2⟩
  simp only [ret_int, ret_bool, ret_flt, ret_slc, ret_str, ret_ptr, ret_agg, ret_tup, ob_some, bb_true, bb_false, List.getElem?_cons_zero, List.getElem?_cons_succ, List.length_cons, List.length_nil, Nat.reduceAdd, Nat.reduceLT]
  refine Evp.ff rfl (Evp.pos (by decide) (Evp.pos (Nat.le_of_ble_eq_true rfl) (Evp.ff rfl ?_)))
  refine Evp.ret ?_
  refine Run.cut (Evp.of_eq (fun k => plane_Frame.p1959 k ..) ?_)
  rw [show IntKind.i64.wrap (2 + 1) = 3 from by decide]
  refine Evp.ret ?_
  refine Run.cut (Evp.of_eq (fun k => plane_Frame.p244 k ..) ?_)
  refine Evp.ff rfl ?_
  refine Evp.some rfl (Evp.some rfl (Evp.some rfl (Evp.some rfl (Evp.some rfl (Evp.some rfl (Evp.some rfl (Evp.some rfl (Evp.some rfl ?_))))))))
  have i0 := b0.in_
  have i1 := b1.in_
  have n1 := b1.new
  have n2 := b2.new
  exact Evp.ret (Run.ret ⟨a0, a1, a2, M3, rfl, (p1.trans p2).trans p3, b0.pre (p2.trans p3), (b1.floor l1).pre p3, b2.floor (by omega), by omega, by omega, by omega⟩)
def WholeP (w0 h0 n0 w1 h1 n1 w2 h2 n2 : Int) : Prop := checkS w0 h0 n0 = 0 ∧ sideP w0 ∧ sideP h0 ∧ checkS w1 h1 n1 = 0 ∧ w1 = w0 / 2 ∧ h1 = h0 / 2 ∧ checkS w2 h2 n2 = 0 ∧ w2 = w0 / 2 ∧ h2 = h0 / 2
instance (w0 h0 n0 w1 h1 n1 w2 h2 n2 : Int) : Decidable (WholeP w0 h0 n0 w1 h1 n1 w2 h2 n2) := inferInstanceAs (Decidable (_ ∧ _))
def wholeS (w0 h0 n0 w1 h1 n1 w2 h2 n2 : Int) : Int := if WholeP w0 h0 n0 w1 h1 n1 w2 h2 n2 then 0 else 2
section
variable (lo : Nat) (w0 h0 w1 h1 w2 h2 : Int) (A0 A1 A2 : Option Addr) (n0 c0 n1 c1 n2 c2 : Nat) (M : Mem)
theorem whole_ok : Ac P T lo F.plane_Whole [.agg ⟨[.int .i64 w0, .int .i64 h0, .slice A0 n0 c0, .int .i64 w1, .int .i64 h1, .slice A1 n1 c1, .int .i64 w2, .int .i64 h2, .slice A2 n2 c2]⟩] M fun r => r = (.int .i64 (wholeS w0 h0 n0 w1 h1 n1 w2 h2 n2), M) := by
  have bad : ¬ WholeP w0 h0 n0 w1 h1 n1 w2 h2 n2 → Run P T lo F.plane_Whole (.ret (.int .i64 2) M) fun r => r = (.int .i64 (wholeS w0 h0 n0 w1 h1 n1 w2 h2 n2), M) := fun h => Run.ret (by unfold wholeS; rw [if_neg h])
  have s0 : ∀ z : Int, shrI .i64 z (minI 0 1).toNat = z := fun z => by rw [show (minI 0 1).toNat = 0 from rfl, shr_eq 0 (by omega)]; simp
  have s1 : ∀ z : Int, shrI .i64 z (minI 1 1).toNat = z / 2 := fun z => by rw [show (minI 1 1).toNat = 1 from rfl, shr_eq 1 (by omega)]; rfl
  have s2 : ∀ z : Int, shrI .i64 z (minI 2 1).toNat = z / 2 := fun z => by rw [show (minI 2 1).toNat = 1 from rfl, shr_eq 1 (by omega)]; rfl
  refine Ac.of (Evp.of_eq (fun k => plane_Whole.entry k ..) ?_)
  refine Evp.ret ?_
  refine Run.cut (Evp.of_eq (fun k => plane_Whole.p116 k ..) ?_)
  refine Evp.tt rfl (Evp.pos (by decide) (Evp.some rfl (Evp.some rfl (Evp.some rfl ?_))))
  refine Evp.ob (check_ok ..) ?_
  rintro _ rfl
  simp only [ret_int, ret_bool, ret_flt, ret_slc, ret_str, ret_ptr, ret_agg, ret_tup, ob_some, bb_true, bb_false, List.getElem?_cons_zero, List.getElem?_cons_succ, List.length_cons, List.length_nil, Nat.reduceAdd, Nat.reduceLT]
  refine Evp.neb (fun h => Evp.ret (bad fun e => h e.1)) fun k0 => ?_
  refine Evp.ob (sides_ok ..) ?_
  rintro _ rfl
  simp only [ret_int, ret_bool, ret_flt, ret_slc, ret_str, ret_ptr, ret_agg, ret_tup, ob_some, bb_true, bb_false, List.getElem?_cons_zero, List.getElem?_cons_succ, List.length_cons, List.length_nil, Nat.reduceAdd, Nat.reduceLT]
  refine Evp.nb (fun h => Evp.ret (bad fun e => of_decide_eq_false h ⟨e.2.1, e.2.2.1⟩)) fun hs => ?_
  have hs := of_decide_eq_true hs
  refine Evp.neg (by decide) ?_
  rw [s0, s0]
  refine Evp.neb (fun h => absurd rfl h) fun _ => ?_
  refine Evp.neg (by decide) ?_
  refine Evp.neb (fun h => absurd rfl h) fun _ => ?_
  rw [show IntKind.i64.wrap (0 + 1) = 1 from by decide]
  refine Evp.ret ?_
  refine Run.cut (Evp.of_eq (fun k => plane_Whole.p116 k ..) ?_)
  refine Evp.tt rfl (Evp.pos (by decide) (Evp.some rfl (Evp.some rfl (Evp.some rfl ?_))))
  refine Evp.ob (check_ok ..) ?_
  rintro _ rfl
  simp only [ret_int, ret_bool, ret_flt, ret_slc, ret_str, ret_ptr, ret_agg, ret_tup, ob_some, bb_true, bb_false, List.getElem?_cons_zero, List.getElem?_cons_succ, List.length_cons, List.length_nil, Nat.reduceAdd, Nat.reduceLT]
  refine Evp.neb (fun h => Evp.ret (bad fun e => h e.2.2.2.1)) fun k1 => ?_
  refine Evp.ob (sides_ok ..) ?_
  rintro _ rfl
  simp only [ret_int, ret_bool, ret_flt, ret_slc, ret_str, ret_ptr, ret_agg, ret_tup, ob_some, bb_true, bb_false, List.getElem?_cons_zero, List.getElem?_cons_succ, List.length_cons, List.length_nil, Nat.reduceAdd, Nat.reduceLT]
  refine Evp.ff (by rw [decide_eq_true hs]; rfl) ?_
  refine Evp.neg (by decide) ?_
  rw [s1, s1]
  refine Evp.neb (fun h => Evp.ret (bad fun e => h e.2.2.2.2.1)) fun e1 => ?_
  refine Evp.neg (by decide) ?_
  refine Evp.neb (fun h => Evp.ret (bad fun e => h e.2.2.2.2.2.1)) fun e2 => ?_
  rw [show IntKind.i64.wrap (1 + 1) = 2 from by decide]
  refine Evp.ret ?_
  refine Run.cut (Evp.of_eq (fun k => plane_Whole.p116 k ..) ?_)
  refine Evp.tt rfl (Evp.pos (by decide) (Evp.some rfl (Evp.some rfl (Evp.some rfl ?_))))
  refine Evp.ob (check_ok ..) ?_
  rintro _ rfl
  simp only [ret_int, ret_bool, ret_flt, ret_slc, ret_str, ret_ptr, ret_agg, ret_tup, ob_some, bb_true, bb_false, List.getElem?_cons_zero, List.getElem?_cons_succ, List.length_cons, List.length_nil, Nat.reduceAdd, Nat.reduceLT]
  refine Evp.neb (fun h => Evp.ret (bad fun e => h e.2.2.2.2.2.2.1)) fun k2 => ?_
  refine Evp.ob (sides_ok ..) ?_
  rintro _ rfl
  simp only [ret_int, ret_bool, ret_flt, ret_slc, ret_str, ret_ptr, ret_agg, ret_tup, ob_some, bb_true, bb_false, List.getElem?_cons_zero, List.getElem?_cons_succ, List.length_cons, List.length_nil, Nat.reduceAdd, Nat.reduceLT]
  refine Evp.ff (by rw [decide_eq_true hs]; rfl) ?_
  refine Evp.neg (by decide) ?_
  rw [s2, s2]
  refine Evp.neb (fun h => Evp.ret (bad fun e => h e.2.2.2.2.2.2.2.1)) fun e3 => ?_
  refine Evp.neg (by decide) ?_
  refine Evp.neb (fun h => Evp.ret (bad fun e => h e.2.2.2.2.2.2.2.2)) fun e4 => ?_
  rw [show IntKind.i64.wrap (2 + 1) = 3 from by decide]
  refine Evp.ret ?_
  refine Run.cut (Evp.of_eq (fun k => plane_Whole.p116 k ..) ?_)
  refine Evp.ff rfl (Evp.ret (Run.ret ?_))
  unfold wholeS
  rw [if_pos ⟨k0, hs.1, hs.2, k1, e1, e2, k2, e3, e4⟩]
end
section
variable (lo : Nat) (w h W H : Nat) (A0 A1 A2 : Option Addr) (c0 c1 c2 : Nat) (xs ys zs : List Int) (M : Mem)
theorem resized_ok (hlo : lo ≤ M.length) (hx : RdI M .u8 A0 xs) (hy : RdI M .u8 A1 ys) (hz : RdI M .u8 A2 zs) (hc0 : xs.length ≤ c0) (hc1 : ys.length ≤ c1) (hc2 : zs.length ≤ c2) (hs : sideP w ∧ sideP h) (hS : sideP W ∧ sideP H) (n0 : xs.length = w * h) (n1 : ys.length = (w / 2) * (h / 2)) (n2 : zs.length = (w / 2) * (h / 2)) :
    Ac P T lo F.plane_resized [.agg ⟨[.int .i64 w, .int .i64 h, .slice A0 xs.length c0, .int .i64 (w / 2 : Nat), .int .i64 (h / 2 : Nat), .slice A1 ys.length c1, .int .i64 (w / 2 : Nat), .int .i64 (h / 2 : Nat), .slice A2 zs.length c2]⟩, .int .i64 W, .int .i64 H] M fun r =>
      ∃ a0 a1 a2 M', r = (.agg ⟨[.int .i64 W, .int .i64 H, .slice (some a0) (H * W) (H * W), .int .i64 (W / 2 : Nat), .int .i64 (H / 2 : Nat), .slice (some a1) ((H / 2) * (W / 2)) ((H / 2) * (W / 2)), .int .i64 (W / 2 : Nat), .int .i64 (H / 2 : Nat), .slice (some a2) ((H / 2) * (W / 2)) ((H / 2) * (W / 2))]⟩, M') ∧ Pre M M' ∧
        Buf M M' a0 ((sizedS w h xs W (H * W)).map (Value.int .u8)) ∧ Buf M M' a1 ((sizedS (w / 2 : Nat) (h / 2 : Nat) ys (W / 2) ((H / 2) * (W / 2))).map (Value.int .u8)) ∧ Buf M M' a2 ((sizedS (w / 2 : Nat) (h / 2 : Nat) zs (W / 2) ((H / 2) * (W / 2))).map (Value.int .u8)) ∧ a0.block ≠ a1.block ∧ a0.block ≠ a2.block ∧ a1.block ≠ a2.block := by
  unfold sideP at hs hS
  have s0 : ∀ z : Int, shrI .i64 z (minI 0 1).toNat = z := fun z => by rw [show (minI 0 1).toNat = 0 from rfl, shr_eq 0 (by omega)]; simp
  have s1 : ∀ z : Nat, shrI .i64 z (minI 1 1).toNat = ((z / 2 : Nat) : Int) := fun z => by rw [show (minI 1 1).toNat = 1 from rfl, shr_eq 1 (by omega)]; rfl
  have s2 : ∀ z : Nat, shrI .i64 z (minI 2 1).toNat = ((z / 2 : Nat) : Int) := fun z => by rw [show (minI 2 1).toNat = 1 from rfl, shr_eq 1 (by omega)]; rfl
  refine Ac.of (Evp.of_eq (fun k => plane_resized.entry k ..) ?_)
  refine Evp.ret ?_
  refine Run.cut (Evp.of_eq (fun k => plane_resized.p116 k ..) ?_)
  refine Evp.tt rfl (Evp.pos (by decide) (Evp.some rfl (Evp.some rfl (Evp.some rfl ?_))))
  refine Evp.neg (by decide) (Evp.neg (by decide) ?_)
  rw [s0, s0]
  refine Evp.ob (sized_ok lo w h W H A0 c0 xs M hlo hx hc0 n0 (by omega) (by omega) (by omega) (by omega)) ?_
  rintro _ ⟨a0, M1, rfl, p1, b0⟩
  simp only [ret_int, ret_bool, ret_flt, ret_slc, ret_str, ret_ptr, ret_agg, ret_tup, ob_some, bb_true, bb_false, List.getElem?_cons_zero, List.getElem?_cons_succ, List.length_cons, List.length_nil, Nat.reduceAdd, Nat.reduceLT]
  refine Evp.pos (by decide) (Evp.pos (Nat.le_of_ble_eq_true rfl) ?_)
  rw [show IntKind.i64.wrap (0 + 1) = 1 from by decide]
  refine Evp.ret ?_
  have l1 := p1.len
  refine Run.cut (Evp.of_eq (fun k => plane_resized.p116 k ..) ?_)
  refine Evp.tt rfl (Evp.pos (by decide) (Evp.some rfl (Evp.some rfl (Evp.some rfl ?_))))
  refine Evp.neg (by decide) (Evp.neg (by decide) ?_)
  rw [s1, s1]
  refine Evp.ob (sized_ok lo (w / 2) (h / 2) (W / 2) (H / 2) A1 c1 ys M1 (by omega) (hy.pre p1) hc1 n1 (by omega) (by omega) (by omega) (by omega)) ?_
  rintro _ ⟨a1, M2, rfl, p2, b1⟩
  simp only [ret_int, ret_bool, ret_flt, ret_slc, ret_str, ret_ptr, ret_agg, ret_tup, ob_some, bb_true, bb_false, List.getElem?_cons_zero, List.getElem?_cons_succ, List.length_cons, List.length_nil, Nat.reduceAdd, Nat.reduceLT]
  refine Evp.pos (by decide) (Evp.pos (Nat.le_of_ble_eq_true rfl) ?_)
  rw [show IntKind.i64.wrap (1 + 1) = 2 from by decide]
  refine Evp.ret ?_
  have l2 := p2.len
  refine Run.cut (Evp.of_eq (fun k => plane_resized.p116 k ..) ?_)
  refine Evp.tt rfl (Evp.pos (by decide) (Evp.some rfl (Evp.some rfl (Evp.some rfl ?_))))
  refine Evp.neg (by decide) (Evp.neg (by decide) ?_)
  rw [s2, s2]
  refine Evp.ob (sized_ok lo (w / 2) (h / 2) (W / 2) (H / 2) A2 c2 zs M2 (by omega) (hz.pre (p1.trans p2)) hc2 n2 (by omega) (by omega) (by omega) (by omega)) ?_
  rintro _ ⟨a2, M3, rfl, p3, b2⟩
  simp only [ret_int, ret_bool, ret_flt, ret_slc, ret_str, ret_ptr, ret_agg, ret_tup, ob_some, bb_true, bb_false, List.getElem?_cons_zero, List.getElem?_cons_succ, List.length_cons, List.length_nil, Nat.reduceAdd, Nat.reduceLT]
  refine Evp.pos (by decide) (Evp.pos (Nat.le_of_ble_eq_true rfl) ?_)
  rw [show IntKind.i64.wrap (2 + 1) = 3 from by decide]
  refine Evp.ret ?_
  refine Run.cut (Evp.of_eq (fun k => plane_resized.p116 k ..) ?_)
  refine Evp.ff rfl ?_
  refine Evp.some rfl (Evp.some rfl (Evp.some rfl (Evp.some rfl (Evp.some rfl (Evp.some rfl (Evp.some rfl (Evp.some rfl (Evp.some rfl ?_))))))))
  have i0 := b0.in_
  have i1 := b1.in_
  have m1 := b1.new
  have m2 := b2.new
  exact Evp.ret (Run.ret ⟨a0, a1, a2, M3, rfl, (p1.trans p2).trans p3, b0.pre (p2.trans p3), (b1.floor l1).pre p3, b2.floor (by omega), by omega, by omega, by omega⟩)
end
theorem clr7 : ∀ n : Nat, n < 300 → clrI .i64 (n : Int) 7 = ((n / 8 * 8 : Nat) : Int) := by decide +kernel
end Go.Zt
