/- What the law ChainKnown needs of the text Fg. -/
import Derived.Test.YtbbfdebfhgdciaaPFf
import Derived.Test.YtbbfdebfhgdciaaPArg
set_option linter.unusedVariables false
set_option linter.unusedSimpArgs false
set_option maxRecDepth 100000
namespace Go.Zt
theorem andle {x : Int} : 0 ≤ andI .u64 x 4294967295 ∧ andI .u64 x 4294967295 ≤ 4294967295 := by
  unfold andI
  have h : (BitVec.ofInt IntKind.u64.bits x &&& BitVec.ofInt IntKind.u64.bits 4294967295).toNat ≤ 4294967295 := by
    rw [BitVec.toNat_and]
    exact Nat.le_trans Nat.and_le_right (by decide)
  rw [wu64 (by omega)]
  omega
theorem shr_small {x : Int} (h : 0 ≤ x ∧ x ≤ 4294967295) : shrI .u64 x 32 = 0 := by
  unfold shrI
  rw [show min 32 IntKind.u64.bits = 32 from rfl, Int.fdiv_eq_ediv_of_nonneg _ (by decide)]
  exact Int.ediv_eq_zero_of_lt h.1 (by omega)
theorem mul64_ok (lo : Nat) (n : Int) (M : Mem) (hn : 0 ≤ n ∧ n ≤ 2147483647) : Ac P T lo F.math_bits_Mul64 [.int .u64 1, .int .u64 n] M fun r => r = (.tuple ⟨[.int .u64 0, .int .u64 n]⟩, M) := by
  refine Ac.of (Evp.of_eq (fun k => math_bits_Mul64.entry k ..) ?_)
  refine Evp.ret (Run.ret ?_)
  have a1 := andle (x := n)
  have a2 : andI .u64 1 4294967295 = 1 := by decide
  have a3 : andI .u64 0 4294967295 = 0 := by decide
  have w0 : IntKind.u64.wrap 0 = 0 := by decide
  simp only [shr_small (x := 1) (by decide), shr_small (x := n) (by omega), a2, Int.zero_mul, Int.one_mul, Int.mul_zero, w0, Int.zero_add, Int.add_zero, wu64 (x := andI .u64 n 4294967295) (by omega), shr_small (x := andI .u64 n 4294967295) (by omega), a3, shr_small (x := 0) (by decide), wu64 (x := n) (by omega)]
theorem mul_ok (lo : Nat) (n : Int) (M : Mem) (hn : 0 ≤ n ∧ n ≤ 2147483647) : Ac P T lo F.math_bits_Mul [.int .u64 1, .int .u64 n] M fun r => r = (.tuple ⟨[.int .u64 0, .int .u64 n]⟩, M) := by
  refine Ac.of (Evp.of_eq (fun k => math_bits_Mul.entry k ..) ?_)
  refine Evp.ob (mul64_ok _ _ _ hn) ?_
  rintro _ rfl
  simp only [ret_int, ret_bool, ret_flt, ret_slc, ret_str, ret_ptr, ret_agg, ret_tup, ob_some, bb_true, bb_false, List.getElem?_cons_zero, List.getElem?_cons_succ, List.length_cons, List.length_nil, Nat.reduceAdd, Nat.reduceLT]
  exact Evp.ret (Run.ret rfl)
theorem rd_src {M : Mem} {A : Option Addr} {k : IntKind} {l h c m : Nat} {xs : List Int} (hr : RdI M k A xs) (h1 : l ≤ h) (h2 : h ≤ xs.length) (hc : xs.length ≤ c) (hm : m = h - l) :
    Mem.src M (Zt.slAddr 1 A l c) m m = some (((xs.drop l).take m).map (Value.int k)) := by
  subst hm
  have := (hr.slAddr h1 h2 hc).src
  rwa [List.length_take, List.length_drop, Nat.min_eq_left (by omega)] at this
theorem slAddr_at {a : Addr} {l c : Nat} (h : l < c) : Zt.slAddr 1 (some a) l c = some (plus a l) := by
  unfold Zt.slAddr
  rw [if_neg (by omega)]; rfl
def fillR (n : Nat) (v : Int) (i : Nat) : List Int := List.replicate i v ++ List.replicate (n - i) 0
theorem fillR_len {n i : Nat} {v : Int} (h : i ≤ n) : (fillR n v i).length = n := by simp [fillR]; omega
theorem fillR_full (n : Nat) (v : Int) : fillR n v n = List.replicate n v := by simp [fillR]
theorem fillR_set {n i m : Nat} {v : Int} (h : i + m ≤ n) : setL ((fillR n v i).map (Value.int .u8)) i ((List.replicate m v).map (Value.int .u8)) = (fillR n v (i + m)).map (Value.int .u8) := by
  have e1 : (fillR n v i).map (Value.int .u8) = List.replicate i (.int .u8 v) ++ List.replicate m (.int .u8 0) ++ List.replicate (n - i - m) (.int .u8 0) := by
    simp [fillR]; omega
  have e2 : (fillR n v (i + m)).map (Value.int .u8) = List.replicate i (.int .u8 v) ++ List.replicate m (.int .u8 v) ++ List.replicate (n - i - m) (.int .u8 0) := by
    simp [fillR, Nat.sub_sub]
  have := setL_all (List.replicate i (Value.int .u8 v)) (List.replicate m (Value.int .u8 0)) (List.replicate m (Value.int .u8 v)) (List.replicate (n - i - m) (Value.int .u8 0)) (by simp)
  rw [List.length_replicate] at this
  rw [e1, e2, List.map_replicate, this]
theorem repeat_loop (lo : Nat) (M0 : Mem) (a : Addr) (n : Nat) (v : Int) (hn : n ≤ 2147483647) (hlo : lo ≤ M0.length) : ∀ (d i : Nat) (M : Mem), n - i = d → 1 ≤ i → i ≤ n → Pre M0 M → Buf M0 M a ((fillR n v i).map (Value.int .u8)) →
    Run P T lo F.slices_Repeat__uint8_uint8 (slices_Repeat__uint8_uint8.c1016 (some a) n n i M) fun r => ∃ M', r = (.slice (some a) n n, M') ∧ Pre M0 M' ∧ Buf M0 M' a ((List.replicate n v).map (Value.int .u8)) := by
  intro d
  induction d using Nat.strongRecOn with
  | ind d ih =>
    intro i M hd h1 hi hp hb
    refine Run.cut (Evp.of_eq (fun k => slices_Repeat__uint8_uint8.p1016 k ..) ?_)
    refine Evp.dec (fun hlt => ?_) fun hge => ?_
    · refine Evp.pos (by omega) (Evp.pos (by omega) ?_)
      simp only [Int.toNat_natCast, Nat.sub_zero]
      have hmin : Nat.min i (n - i) ≤ i ∧ Nat.min i (n - i) ≤ n - i ∧ 1 ≤ Nat.min i (n - i) := ⟨Nat.min_le_left _ _, Nat.min_le_right _ _, Nat.le_min.2 ⟨h1, by omega⟩⟩
      have hl := fillR_len (v := v) hi
      refine Evp.some (rd_src (h := Nat.min i (n - i)) hb.rdI (by omega) (by omega) (by omega) (by omega)) ?_
      refine Evp.neg (by omega) ?_
      refine Evp.some (slAddr_at (by omega)) ?_
      have e : ((fillR n v i).drop 0).take (Nat.min i (n - i)) = List.replicate (Nat.min i (n - i)) v := by
        unfold fillR
        rw [List.drop_zero, List.take_append_of_le_length (by rw [List.length_replicate]; omega), List.take_replicate, Nat.min_eq_left (a := Nat.min i (n - i)) (by omega)]
      rw [e]
      obtain ⟨M1, g1, g2, g3, g4, g5⟩ := hb.st (lo := lo) (i := i) (vs := (List.replicate (Nat.min i (n - i)) v).map (Value.int .u8)) hp hlo (by rw [List.length_map, List.length_map, hl, List.length_replicate]; omega)
      refine Evp.some g1 ?_
      rw [fillR_set (by omega)] at g2
      rw [w64 (by omega)]
      exact Evp.ret (ih (n - (i + Nat.min i (n - i))) (by omega) (i + Nat.min i (n - i)) M1 rfl (by omega) (by omega) g3 g2)
    · obtain rfl : i = n := by omega
      rw [fillR_full] at hb
      exact Evp.ret (Run.ret ⟨M, rfl, hp, hb⟩)
theorem repeat_ok (lo : Nat) (A : Option Addr) (c : Nat) (v : Int) (n : Int) (M : Mem) (hx : RdI M .u8 A [v]) (hn : 1 ≤ n ∧ n ≤ 2147483647) (hlo : lo ≤ M.length) :
    Ac P T lo F.slices_Repeat__uint8_uint8 [.slice A 1 c, .int .i64 n] M fun r => ∃ a M', r = (.slice (some a) n.toNat n.toNat, M') ∧ Pre M M' ∧ Buf M M' a ((List.replicate n.toNat v).map (Value.int .u8)) := by
  refine Ac.of (Evp.of_eq (fun k => slices_Repeat__uint8_uint8.entry k ..) ?_)
  refine Evp.dec (fun h => absurd h (by omega)) fun _ => ?_
  refine Evp.ret ?_
  refine Run.cut (Evp.of_eq (fun k => slices_Repeat__uint8_uint8.p7 k ..) ?_)
  rw [show IntKind.u64.wrap ((1 : Nat) : Int) = 1 from by decide, wu64 (x := n) (by omega)]
  refine Evp.ob (mul_ok _ _ _ (by omega)) ?_
  rintro _ rfl
  simp only [ret_int, ret_bool, ret_flt, ret_slc, ret_str, ret_ptr, ret_agg, ret_tup, ob_some, bb_true, bb_false, List.getElem?_cons_zero, List.getElem?_cons_succ, List.length_cons, List.length_nil, Nat.reduceAdd, Nat.reduceLT]
  refine Evp.dec (fun h => absurd h (by omega)) fun _ => ?_
  refine Evp.dec (fun h => absurd h (by omega)) fun _ => ?_
  refine Evp.ret ?_
  refine Run.cut (Evp.of_eq (fun k => slices_Repeat__uint8_uint8.p31 k ..) ?_)
  rw [w64 (x := n) (by omega)]
  refine Evp.pos ⟨by omega, by show n.toNat * 1 ≤ 140737488355328; omega⟩ ?_
  have hm : Nat.min 1 n.toNat = 1 := Nat.min_eq_left (by omega)
  rw [hm]
  have hz : zerosL [.int .u8 0] n.toNat = (fillR n.toNat v 0).map (Value.int .u8) := by rw [zerosL_one]; simp [fillR]
  rw [hz]
  refine Evp.some ((hx.pre (Pre.app _ _)).src) (Evp.neg (by omega) ?_)
  obtain ⟨M1, g1, g2, g3, g4, g5⟩ := (Buf.push (cs := (fillR n.toNat v 0).map (Value.int .u8)) (Pre.refl M)).st (lo := lo) (i := 0) (vs := [.int .u8 v]) (Pre.app _ _) hlo (by simp [fillR_len]; omega)
  refine Evp.some g1 ?_
  have := fillR_set (n := n.toNat) (i := 0) (m := 1) (v := v) (by omega)
  rw [show ((List.replicate 1 v).map (Value.int .u8)) = [.int .u8 v] from rfl] at this
  rw [this] at g2
  refine Evp.ret ((repeat_loop lo M _ n.toNat v (by omega) hlo _ (0 + 1) M1 rfl (by omega) (by omega) g3 g2).mono ?_)
  rintro r ⟨M', rfl, h1, h2⟩
  exact ⟨_, M', rfl, h1, h2⟩
theorem new_ok (lo : Nat) (w h v : Int) (M : Mem) (hlo : lo ≤ M.length) :
    Ac P T lo F.plane_New [.int .i64 w, .int .i64 h, .int .u8 v] M fun r => Pre M r.2 ∧ if 1 ≤ w ∧ w ≤ 512 ∧ 1 ≤ h ∧ h ≤ 512 then ∃ a, r.1 = .tuple ⟨[.agg ⟨[.int .i64 w, .int .i64 h, .slice (some a) (w * h).toNat (w * h).toNat]⟩, .int .i64 0]⟩ ∧ Buf M r.2 a ((List.replicate (w * h).toNat v).map (Value.int .u8))
      else r.1 = .tuple ⟨[.agg ⟨[.int .i64 0, .int .i64 0, .slice none 0 0]⟩, .int .i64 2]⟩ := by
  refine Ac.of (Evp.of_eq (fun k => plane_New.entry k ..) ?_)
  refine Evp.ob (sizes_ok ..) ?_
  rintro _ rfl
  simp only [ret_int, ret_bool, ret_flt, ret_slc, ret_str, ret_ptr, ret_agg, ret_tup, ob_some, bb_true, bb_false, List.getElem?_cons_zero, List.getElem?_cons_succ, List.length_cons, List.length_nil, Nat.reduceAdd, Nat.reduceLT]
  refine Evp.nb (fun h1 => ?_) fun h1 => ?_
  · have := of_decide_eq_false h1
    exact Evp.ret (Run.ret ⟨Pre.refl _, by rw [if_neg this]⟩)
  · have h1 := of_decide_eq_true h1
    have hm := area h1
    rw [w64 (by omega)]
    refine Evp.ob (repeat_ok lo _ 1 v (w * h) _ (RdI.lit [v]) (by omega) (by simp; omega)) ?_
    rintro _ ⟨a, M', rfl, p1, hb⟩
    simp only [ret_int, ret_bool, ret_flt, ret_slc, ret_str, ret_ptr, ret_agg, ret_tup, ob_some, bb_true, bb_false, List.getElem?_cons_zero, List.getElem?_cons_succ, List.length_cons, List.length_nil, Nat.reduceAdd, Nat.reduceLT]
    refine Evp.ret (Run.ret ⟨(Pre.app _ _).trans p1, ?_⟩)
    rw [if_pos h1]
    exact ⟨a, rfl, hb.floor (by simp)⟩
theorem new_nat (lo : Nat) (w h : Nat) (v : Int) (M : Mem) (hlo : lo ≤ M.length) (hw : 1 ≤ w ∧ w ≤ 512) (hh : 1 ≤ h ∧ h ≤ 512) :
    Ac P T lo F.plane_New [.int .i64 w, .int .i64 h, .int .u8 v] M fun r => ∃ a M', r = (.tuple ⟨[.agg ⟨[.int .i64 w, .int .i64 h, .slice (some a) (w * h) (w * h)]⟩, .int .i64 0]⟩, M') ∧ Pre M M' ∧ Buf M M' a ((List.replicate (w * h) v).map (Value.int .u8)) := by
  refine Ac.mono (new_ok lo w h v M hlo) ?_
  rintro ⟨r, M'⟩ ⟨hp, h2⟩
  rw [if_pos (by omega), ← Int.natCast_mul] at h2
  simp only [Int.toNat_natCast] at h2
  obtain ⟨a, rfl, hb⟩ := h2
  exact ⟨a, M', rfl, hp, hb⟩
theorem frame_ok (lo : Nat) (w h : Nat) (v : Int) (M : Mem) (hlo : lo ≤ M.length) (hs : sideP w ∧ sideP h) :
    Ac P T lo F.plane_Frame [.int .i64 w, .int .i64 h, .int .u8 v] M fun r => ∃ a0 a1 a2 M', r = (.tuple ⟨[.agg ⟨[.int .i64 w, .int .i64 h, .slice (some a0) (w * h) (w * h), .int .i64 (w / 2 : Nat), .int .i64 (h / 2 : Nat), .slice (some a1) ((w / 2) * (h / 2)) ((w / 2) * (h / 2)), .int .i64 (w / 2 : Nat), .int .i64 (h / 2 : Nat), .slice (some a2) ((w / 2) * (h / 2)) ((w / 2) * (h / 2))]⟩, .int .i64 0]⟩, M') ∧ Pre M M' ∧
      Buf M M' a0 ((List.replicate (w * h) v).map (Value.int .u8)) ∧ Buf M M' a1 ((List.replicate ((w / 2) * (h / 2)) v).map (Value.int .u8)) ∧ Buf M M' a2 ((List.replicate ((w / 2) * (h / 2)) v).map (Value.int .u8)) ∧ a0.block ≠ a1.block ∧ a0.block ≠ a2.block ∧ a1.block ≠ a2.block := by
  have hs' := hs
  unfold sideP at hs'
  refine Ac.of (Evp.of_eq (fun k => plane_Frame.entry k ..) ?_)
  refine Evp.ob (sides_ok ..) ?_
  rintro _ rfl
  simp only [ret_int, ret_bool, ret_flt, ret_slc, ret_str, ret_ptr, ret_agg, ret_tup, ob_some, bb_true, bb_false, List.getElem?_cons_zero, List.getElem?_cons_succ, List.length_cons, List.length_nil, Nat.reduceAdd, Nat.reduceLT]
  refine Evp.ff (by rw [decide_eq_true hs]; rfl) ?_
  refine Evp.ret ?_
  refine Run.cut (Evp.of_eq (fun k => plane_Frame.p244 k ..) ?_)
  refine Evp.tt rfl ?_
  refine Evp.ob (new_nat lo w h v M hlo (by omega) (by omega)) ?_
  rintro _ ⟨a0, M1, rfl, p1, b0⟩
  simp only [ret_int, ret_bool, ret_flt, ret_slc, ret_str, ret_ptr, ret_agg, ret_tup, ob_some, bb_true, bb_false, List.getElem?_cons_zero, List.getElem?_cons_succ, List.length_cons, List.length_nil, Nat.reduceAdd, Nat.reduceLT]
  refine Evp.ff rfl (Evp.pos (by decide) (Evp.pos (Nat.le_of_ble_eq_true rfl) (Evp.tt rfl ?_)))
  have t1 : Int.tdiv ((w : Nat) : Int) 2 = ((w / 2 : Nat) : Int) := rfl
  have t2 : Int.tdiv ((h : Nat) : Int) 2 = ((h / 2 : Nat) : Int) := rfl
  rw [t1, t2, w64 (x := ((w / 2 : Nat) : Int)) (by omega), w64 (x := ((h / 2 : Nat) : Int)) (by omega)]
  refine Evp.ret ?_
  refine Run.cut (Evp.of_eq (fun k => plane_Frame.p1959 k ..) ?_)
  rw [show IntKind.i64.wrap (0 + 1) = 1 from by decide]
  refine Evp.ret ?_
  have l1 := p1.len
  refine Run.cut (Evp.of_eq (fun k => plane_Frame.p244 k ..) ?_)
  refine Evp.tt rfl ?_
  refine Evp.ob (new_nat lo (w / 2) (h / 2) v M1 (by omega) (by omega) (by omega)) ?_
  rintro _ ⟨a1, M2, rfl, p2, b1⟩
  simp only [ret_int, ret_bool, ret_flt, ret_slc, ret_str, ret_ptr, ret_agg, ret_tup, ob_some, bb_true, bb_false, List.getElem?_cons_zero, List.getElem?_cons_succ, List.length_cons, List.length_nil, Nat.reduceAdd, Nat.reduceLT]
  refine Evp.ff rfl (Evp.pos (by decide) (Evp.pos (Nat.le_of_ble_eq_true rfl) (Evp.ff rfl ?_)))
  refine Evp.ret ?_
  refine Run.cut (Evp.of_eq (fun k => plane_Frame.p1959 k ..) ?_)
  rw [show IntKind.i64.wrap (1 + 1) = 2 from by decide]
  refine Evp.ret ?_
  have l2 := p2.len
  refine Run.cut (Evp.of_eq (fun k => plane_Frame.p244 k ..) ?_)
  refine Evp.tt rfl ?_
  refine Evp.ob (new_nat lo (w / 2) (h / 2) v M2 (by omega) (by omega) (by omega)) ?_
  rintro _ ⟨a2, M3, rfl, p3, b2⟩
  simp only [ret_int, ret_bool, ret_flt, ret_slc, ret_str, ret_ptr, ret_agg, ret_tup, ob_some, bb_true, bb_false, List.getElem?_cons_zero, List.getElem?_cons_succ, List.length_cons, List.length_nil, Nat.reduceAdd, Nat.reduceLT]
  refine Evp.ff rfl (Evp.pos (by decide) (Evp.pos (Nat.le_of_ble_eq_true rfl) (Evp.ff rfl ?_)))
  refine Evp.ret ?_
  refine Run.cut (Evp.of_eq (fun k => plane_Frame.p1959 k ..) ?_)
  rw [show IntKind.i64.wrap (2 + 1) = 3 from by decide]
  refine Evp.ret ?_
  refine Run.cut (Evp.of_eq (fun k => plane_Frame.p244 k ..) ?_)
  refine Evp.ff rfl ?_
  refine Evp.some rfl (Evp.some rfl (Evp.some rfl (Evp.some rfl (Evp.some rfl (Evp.some rfl (Evp.some rfl (Evp.some rfl (Evp.some rfl ?_))))))))
  have i0 := b0.in_
  have i1 := b1.in_
  have n1 := b1.new
  have n2 := b2.new
  exact Evp.ret (Run.ret ⟨a0, a1, a2, M3, rfl, (p1.trans p2).trans p3, b0.pre (p2.trans p3), (b1.floor l1).pre p3, b2.floor (by omega), by omega, by omega, by omega⟩)
theorem eq_of_getD {xs ys : List Int} (hl : xs.length = ys.length) (h : ∀ j, j < xs.length → xs.getD j 0 = ys.getD j 0) : xs = ys := ext_getD hl h
theorem equal_loop (lo : Nat) (A A' : Option Addr) (c c' : Nat) (xs ys : List Int) (M : Mem) (hx : RdI M .u8 A xs) (hy : RdI M .u8 A' ys) (hl : xs.length = ys.length) (hn : xs.length ≤ 140737488351232) :
    ∀ (d i : Nat), xs.length - i = d → i ≤ xs.length → (∀ j, j < i → xs.getD j 0 = ys.getD j 0) → Run P T lo F.slices_Equal__uint8_uint8 (slices_Equal__uint8_uint8.c116 A xs.length c A' ys.length c' xs.length i M) fun r => r = (.bool (decide (xs = ys)), M) := by
  intro d
  induction d with
  | zero =>
    intro i hd hi hj
    refine Run.cut (Evp.of_eq (fun k => slices_Equal__uint8_uint8.p116 k ..) ?_)
    refine Evp.dec (fun h => absurd h (by omega)) fun _ => Evp.ret (Run.ret ?_)
    rw [decide_eq_true (eq_of_getD hl fun j h => hj j (by omega))]
  | succ d ih =>
    intro i hd hi hj
    refine Run.cut (Evp.of_eq (fun k => slices_Equal__uint8_uint8.p116 k ..) ?_)
    refine Evp.dec (fun _ => ?_) fun h => absurd h (by omega)
    refine Evp.pos (by omega) ?_
    simp only [Int.toNat_natCast]
    refine Evp.ldI hx (by omega) fun a _ => ?_
    refine Evp.pos (by omega) ?_
    refine Evp.ldI hy (by omega) fun a' _ => ?_
    refine Evp.neb (fun hne => Evp.ret (Run.ret ?_)) fun he => ?_
    · rw [decide_eq_false (fun e => hne (by rw [e]))]
    · rw [w64 (by omega)]
      exact Evp.ret (ih (i + 1) (by omega) (by omega) fun j h => by
        by_cases hji : j = i
        · subst hji; exact he
        · exact hj j (by omega))
theorem equal_ok (lo : Nat) (A A' : Option Addr) (c c' : Nat) (xs ys : List Int) (M : Mem) (hx : RdI M .u8 A xs) (hy : RdI M .u8 A' ys) (hn : xs.length ≤ 140737488351232) :
    Ac P T lo F.slices_Equal__uint8_uint8 [.slice A xs.length c, .slice A' ys.length c'] M fun r => r = (.bool (decide (xs = ys)), M) := by
  refine Ac.of (Evp.of_eq (fun k => slices_Equal__uint8_uint8.entry k ..) ?_)
  refine Evp.neb (fun h => Evp.ret (Run.ret ?_)) fun h => ?_
  · rw [decide_eq_false (fun e => h (by rw [e]))]
  · exact Evp.ret (equal_loop lo A A' c c' xs ys M hx hy (by omega) hn _ 0 rfl (by omega) fun j h => by omega)
theorem same_ok (lo : Nat) (w h w' h' : Int) (A A' : Option Addr) (c c' : Nat) (xs ys : List Int) (M : Mem) (hx : RdI M .u8 A xs) (hy : RdI M .u8 A' ys) (hn : xs.length ≤ 140737488351232) :
    Ac P T lo F.plane_Same [.agg ⟨[.int .i64 w, .int .i64 h, .slice A xs.length c]⟩, .agg ⟨[.int .i64 w', .int .i64 h', .slice A' ys.length c']⟩] M fun r => r = (.bool (decide (w = w' ∧ h = h' ∧ xs = ys)), M) := by
  refine Ac.of (Evp.of_eq (fun k => plane_Same.entry k ..) ?_)
  refine Evp.eqb (fun h1 => ?_) fun h1 => Evp.ret (Run.ret (by rw [decide_eq_false (fun e => h1 e.1)]))
  refine Evp.eqb (fun h2 => ?_) fun h2 => Evp.ret (Run.ret (by rw [decide_eq_false (fun e => h2 e.2.1)]))
  refine Evp.ob (equal_ok _ _ _ _ _ _ _ _ hx hy hn) ?_
  rintro _ rfl
  simp only [ret_int, ret_bool, ret_flt, ret_slc, ret_str, ret_ptr, ret_agg, ret_tup, ob_some, bb_true, bb_false, List.getElem?_cons_zero, List.getElem?_cons_succ, List.length_cons, List.length_nil, Nat.reduceAdd, Nat.reduceLT]
  refine Evp.ret (Run.ret ?_)
  congr 2
  exact decide_eq_decide.2 (by simp [h1, h2])
def fillF (f : Nat → Int) (n i : Nat) : List Int := (List.range n).map fun j => if j < i then f j else 0
theorem fillF_zero (f : Nat → Int) (n : Nat) : List.replicate n 0 = fillF f n 0 := by
  unfold fillF
  apply List.ext_getElem <;> simp
theorem fillF_full (f : Nat → Int) (n : Nat) : fillF f n n = (List.range n).map f := by
  unfold fillF
  apply List.map_congr_left
  intro j hj
  rw [if_pos (List.mem_range.1 hj)]
theorem fillF_len (f : Nat → Int) (n i : Nat) : (fillF f n i).length = n := by simp [fillF]
theorem fillF_set (f : Nat → Int) (n i : Nat) (k : IntKind) : setL ((fillF f n i).map (Value.int k)) i [.int k (f i)] = (fillF f n (i + 1)).map (Value.int k) := by
  rw [setL_one, set_map]
  congr 1
  unfold fillF
  apply List.ext_getElem
  · simp
  · intro j h1 h2
    rw [List.getElem_set]
    simp only [List.getElem_map, List.getElem_range]
    split
    · rename_i e; subst e; rw [if_pos (by omega)]
    · split <;> (try rw [if_pos (by omega)]) <;> (try rw [if_neg (by omega)])
structure Slots (M N : Mem) (k n : Nat) : Prop where
  pre : Pre M N
  free : ∀ j, k ≤ j → j < n → N[M.length + j]? = some ⟨.op 0, []⟩
theorem Slots.init {M : Mem} {n : Nat} : Slots M (M ++ List.replicate n ⟨.op 0, []⟩) 0 n :=
  ⟨Pre.app _ _, fun j _ hj => by rw [List.getElem?_append_right (by omega), Nat.add_sub_cancel_left, List.getElem?_replicate, if_pos hj]⟩
theorem Slots.fill {M N : Mem} {k n lo i z : Nat} {cs : List Value} (s : Slots M N k n) (hk : k < n) (hi : i = M.length + k) (hlo : lo ≤ M.length) (hz : z ≠ 0) (hne : cs ≠ []) :
    ∃ N', N.fill lo i z cs = some (⟨i, 0, some cs.length⟩, N') ∧ Slots M N' (k + 1) n ∧ N'[i]? = some ⟨.op z, cs⟩ ∧ ∀ j, j < i → N'[j]? = N[j]? := by
  have h := s.free k (Nat.le_refl _) hk
  rw [← hi] at h
  have e : N.fill lo i z cs = some (⟨i, 0, some cs.length⟩, N.set i ⟨.op z, cs⟩) := by
    unfold Mem.fill
    simp only [h]
    rw [if_pos ⟨by omega, hz⟩]
    cases cs with
    | nil => exact absurd rfl hne
    | cons c cs => rfl
  refine ⟨_, e, ⟨s.pre.set (by omega) _, fun j h1 h2 => ?_⟩, set_self (lt_of_get h), fun j hj => by rw [List.getElem?_set_ne (by omega)]⟩
  rw [List.getElem?_set_ne (by omega)]
  exact s.free j (by omega) h2
theorem zl_int (k : IntKind) (n : Nat) : zerosL [Value.int k 0] n = (List.replicate n 0).map (Value.int k) := by rw [zerosL_one]; simp
theorem zl_bool (n : Nat) : zerosL [Value.bool false] n = (List.replicate n false).map Value.bool := by rw [zerosL_one]; simp
section
variable (lo : Nat)
theorem cells25_loop (M0 : Mem) (n : Nat) (x1 x2 t : Int) (a1 a2 : Addr) (A3 : Option Addr) (n3 c3 : Nat) (hn : IntKind.i64.wrap (x1 * x2) = (n : Int)) (hn2 : n ≤ 1000) (hlo : lo ≤ M0.length) (hne : a1.block ≠ a2.block) : ∀ (d i : Nat) (M : Mem), n - i = d → i ≤ n → Pre M0 M → Buf M0 M a1 ((fillF (fun _ => t) n i).map (Value.int .u8)) → Buf M0 M a2 ((fillF (fun j => (j : Int)) n i).map (Value.int .i64)) →
    Run P T lo F.zoetropelaw25_cells (zoetropelaw25_cells.c116 x1 x2 t (i : Int) 0 0 none 0 0 none 0 0 none 0 0 x1 x2 (some a1) n n (some a2) n n A3 n3 c3 M) fun r => ∃ M', r = (.agg ⟨[.int .i64 x1, .int .i64 x2, .slice (some a1) n n, .slice (some a2) n n, .slice A3 n3 c3]⟩, M') ∧ Pre M0 M' ∧ (∀ b, b ≠ a1.block → b ≠ a2.block → ∀ k, M[b]? = some k → M'[b]? = some k) ∧ RdI M' .u8 (some a1) (List.replicate n t) ∧ RdI M' .i64 (some a2) ((List.range n).map fun j => ((j : Nat) : Int)) := by
  intro d
  induction d with
  | zero =>
    intro i M hd hi hp h1 h2
    obtain rfl : i = n := by omega
    refine Run.cut (Evp.of_eq (fun k => zoetropelaw25_cells.p116 k ..) ?_)
    rw [hn]
    refine Evp.dec (fun h => absurd h (by omega)) fun _ => Evp.ret (Run.ret ⟨M, rfl, hp, fun b _ _ k hk => hk, ?_, ?_⟩)
    · have := h1.rdI
      rw [fillF_full, List.map_const', List.length_range] at this
      exact this
    · have := h2.rdI
      rw [fillF_full] at this
      exact this
  | succ d ih =>
    intro i M hd hi hp h1 h2
    refine Run.cut (Evp.of_eq (fun k => zoetropelaw25_cells.p116 k ..) ?_)
    rw [hn]
    refine Evp.dec (fun _ => ?_) fun h => absurd h (by omega)
    refine Evp.pos (by omega) (Evp.some rfl ?_)
    simp only [Int.toNat_natCast]
    obtain ⟨M1, g1, g2, g3, g4, g5⟩ := h1.st (lo := lo) (i := i) (vs := [.int .u8 t]) hp hlo (by simp [fillF_len]; omega)
    refine Evp.some g1 (Evp.pos (by omega) (Evp.some rfl ?_))
    have g2 : Buf M0 M1 a1 ((fillF (fun _ => t) n (i + 1)).map (Value.int .u8)) := by
      have := fillF_set (fun _ => t) n i .u8
      rw [this] at g2; exact g2
    obtain ⟨M2, q1, q2, q3, q4, q5⟩ := (h2.keep g4 fun a' e => by injection e with e; subst e; exact hne).st (lo := lo) (i := i) (vs := [.int .i64 (i : Int)]) g3 hlo (by simp [fillF_len]; omega)
    have q2 : Buf M0 M2 a2 ((fillF (fun j => (j : Int)) n (i + 1)).map (Value.int .i64)) := by
      have := fillF_set (fun j => (j : Int)) n i .i64
      rw [this] at q2; exact q2
    refine Evp.some q1 ?_
    rw [w64 (x := (i : Int) + 1) (by omega)]
    refine Evp.ret ((ih (i + 1) M2 (by omega) (by omega) q3 (g2.keep q4 fun a' e => by injection e with e; subst e; exact fun h => hne h.symm) q2).mono ?_)
    rintro r ⟨M', rfl, z1, z2, z3, z4⟩
    exact ⟨M', rfl, z1, fun b b1 b2 k hk => z2 b b1 b2 k (q4 b k (g4 b k hk fun a e => by injection e with e; subst e; exact fun h => b1 h.symm) fun a e => by injection e with e; subst e; exact fun h => b2 h.symm), z3, z4⟩
theorem cells25_ok (w h n : Nat) (t : Int) (M : Mem) (hn : w * h = n) (h1 : 1 ≤ n) (h2 : n ≤ 1000) (hlo : lo ≤ M.length) : Ac P T lo F.zoetropelaw25_cells [.int .i64 (w : Int), .int .i64 (h : Int), .int .u8 t] M fun r => ∃ (m : MapV) (M' : Mem), r = (.agg ⟨m.cells⟩, M') ∧ Pre M M' ∧ MapOk M' m ∧ m.w = w ∧ m.h = h ∧ m.tx = List.replicate n t ∧ m.ids = ((List.range n).map fun j => ((j : Nat) : Int)) ∧ m.qs = List.replicate n false := by
  have en : IntKind.i64.wrap ((w : Int) * (h : Int)) = (n : Int) := by rw [← Int.natCast_mul, hn, w64 (by omega)]
  refine Ac.of (Evp.of_eq (fun k => zoetropelaw25_cells.entry k ..) ?_)
  rw [en]
  simp only [Int.toNat_natCast]
  refine Evp.pos ⟨by omega, by show n * 1 ≤ 140737488355328; omega⟩ ?_
  rw [zl_int, zl_int, zl_bool]
  have ne : ∀ {α : Type} (f : α → Value) (l : List α), l.length = n → l.map f ≠ [] := fun f l hl e => by
    have := congrArg List.length e
    simp [hl] at this; omega
  have s0 : Slots M (M ++ [⟨.op 0, []⟩, ⟨.op 0, []⟩, ⟨.op 0, []⟩] : Mem) 0 3 := Slots.init (n := 3)
  obtain ⟨N1, f1, s1, g1, k1⟩ := s0.fill (lo := lo) (z := 1) (cs := (List.replicate n (0 : Int)).map (Value.int .u8)) (by omega) (show M.length = M.length + 0 by omega) hlo (by omega) (ne _ _ (by simp))
  refine Evp.some f1 (Evp.pos ⟨by omega, by show n * 8 ≤ 140737488355328; omega⟩ ?_)
  obtain ⟨N2, f2, s2, g2, k2⟩ := s1.fill (lo := lo) (z := 1) (cs := (List.replicate n (0 : Int)).map (Value.int .i64)) (by omega) (show M.length + 1 = M.length + (0 + 1) by omega) hlo (by omega) (ne _ _ (by simp))
  refine Evp.some f2 (Evp.pos ⟨by omega, by show n * 1 ≤ 140737488355328; omega⟩ ?_)
  obtain ⟨N3, f3, s3, g3, k3⟩ := s2.fill (lo := lo) (z := 1) (cs := (List.replicate n false).map Value.bool) (by omega) (show M.length + 1 + 1 = M.length + (0 + 1 + 1) by omega) hlo (by omega) (ne _ _ (by simp))
  refine Evp.some f3 (Evp.ret ?_)
  have b1 : Buf M N3 ⟨M.length, 0, some ((List.replicate n (0 : Int)).map (Value.int .u8)).length⟩ ((List.replicate n (0 : Int)).map (Value.int .u8)) := ⟨.op 1, rfl, Nat.le_refl _, by rw [show (⟨M.length, 0, some ((List.replicate n (0 : Int)).map (Value.int .u8)).length⟩ : Addr).block = M.length from rfl, k3 _ (by omega), k2 _ (by omega)]; exact g1, .inr ⟨1, rfl, rfl⟩⟩
  have b2 : Buf M N3 ⟨M.length + 1, 0, some ((List.replicate n (0 : Int)).map (Value.int .i64)).length⟩ ((List.replicate n (0 : Int)).map (Value.int .i64)) := ⟨.op 1, rfl, by simp, by rw [show (⟨M.length + 1, 0, some ((List.replicate n (0 : Int)).map (Value.int .i64)).length⟩ : Addr).block = M.length + 1 from rfl, k3 _ (by omega)]; exact g2, .inr ⟨1, rfl, rfl⟩⟩
  have b3 : Buf M N3 ⟨M.length + 1 + 1, 0, some ((List.replicate n false).map Value.bool).length⟩ ((List.replicate n false).map Value.bool) := ⟨.op 1, rfl, by simp; omega, g3, .inr ⟨1, rfl, rfl⟩⟩
  rw [fillF_zero (fun _ => t)] at b1
  rw [fillF_zero (fun j => (j : Int))] at b2
  refine (cells25_loop lo M n _ _ t _ _ _ n n en h2 hlo (by simp) _ 0 N3 rfl (by omega) s3.pre (by rw [← fillF_zero (fun _ => t) n] at b1 ⊢; exact b1) (by rw [← fillF_zero (fun j => (j : Int)) n] at b2 ⊢; exact b2)).mono ?_
  rintro r ⟨M', rfl, z1, z2, z3, z4⟩
  have b3' : RdB M' (some ⟨M.length + 1 + 1, 0, some ((List.replicate n false).map Value.bool).length⟩) (List.replicate n false) := by
    have hb : Buf M M' ⟨M.length + 1 + 1, 0, some ((List.replicate n false).map Value.bool).length⟩ ((List.replicate n false).map Value.bool) := ⟨.op 1, rfl, by simp; omega, z2 _ (show M.length + 1 + 1 ≠ M.length by omega) (show M.length + 1 + 1 ≠ M.length + 1 by omega) _ g3, .inr ⟨1, rfl, rfl⟩⟩
    exact hb.rd (by simp)
  refine ⟨⟨w, h, _, List.replicate n t, n, _, (List.range n).map (fun j => ((j : Nat) : Int)), n, some ⟨M.length + 1 + 1, 0, some ((List.replicate n false).map Value.bool).length⟩, List.replicate n false, n⟩, M', ?_, z1, ⟨z3, z4, b3', by show (List.replicate n t).length ≤ _; simp; omega⟩, rfl, rfl, rfl, rfl, rfl⟩
  simp [MapV.cells, fillF_len]
theorem byteL {l : List Int} (h : l.all (fun x => decide (0 ≤ x) && decide (x ≤ 255)) = true) : Bytes l := fun x hx => by
  have := List.all_eq_true.1 h x hx
  simpa using this
structure MapIs (m : MapV) (w h : Int) (n : Nat) (t : Int) : Prop where
  w : m.w = w
  h : m.h = h
  tx : m.tx = List.replicate n t
  ids : m.ids = ((List.range n).map fun j => ((j : Nat) : Int))
  qs : m.qs = List.replicate n false
structure BareIs (s : SideV) (t : Int) : Prop where
  m0 : MapIs s.m0 4 4 16 t
  m1 : MapIs s.m1 2 2 4 t
  m2 : MapIs s.m2 2 2 4 t
  qs : s.qs = List.replicate 4 false
  ws : s.ws = [0]
  u0 : s.u0.us = []
  u1 : s.u1.us = []
  u2 : s.u2.us = []
theorem bare16_ok (t : Int) (M : Mem) (hlo : lo ≤ M.length) : Ac P T lo F.zoetropelaw25_bare [.int .i64 16, .int .i64 16, .int .u8 t] M fun r => ∃ (s : SideV) (M' : Mem), r = (.agg ⟨s.cells⟩, M') ∧ Pre M M' ∧ SideOk M' s ∧ BareIs s t := by
  refine Ac.of (Evp.of_eq (fun k => zoetropelaw25_bare.entry k ..) ?_)
  rw [show IntKind.i64.wrap (Int.tdiv 16 4) = ((4 : Nat) : Int) from by decide, show IntKind.i64.wrap (Int.tdiv 16 8) = ((2 : Nat) : Int) from by decide]
  refine Evp.ob (cells25_ok lo 4 4 16 t M rfl (by omega) (by omega) hlo) ?_
  rintro _ ⟨m0, M1, rfl, p1, o1, a1, a2, a3, a4, a5⟩
  simp only [ret_int, ret_bool, ret_flt, ret_slc, ret_str, ret_ptr, ret_agg, ret_tup, ob_some, bb_true, bb_false, List.getElem?_cons_zero, List.getElem?_cons_succ, List.length_cons, List.length_nil, Nat.reduceAdd, Nat.reduceLT]
  have l1 := p1.len
  refine Evp.ob (cells25_ok lo 2 2 4 t M1 rfl (by omega) (by omega) (by omega)) ?_
  rintro _ ⟨m1, M2, rfl, p2, o2, b1, b2, b3, b4, b5⟩
  simp only [ret_int, ret_bool, ret_flt, ret_slc, ret_str, ret_ptr, ret_agg, ret_tup, ob_some, bb_true, bb_false, List.getElem?_cons_zero, List.getElem?_cons_succ, List.length_cons, List.length_nil, Nat.reduceAdd, Nat.reduceLT]
  have l2 := p2.len
  refine Evp.ob (cells25_ok lo 2 2 4 t M2 rfl (by omega) (by omega) (by omega)) ?_
  rintro _ ⟨m2, M3, rfl, p3, o3, c1, c2, c3, c4, c5⟩
  simp only [ret_int, ret_bool, ret_flt, ret_slc, ret_str, ret_ptr, ret_agg, ret_tup, ob_some, bb_true, bb_false, List.getElem?_cons_zero, List.getElem?_cons_succ, List.length_cons, List.length_nil, Nat.reduceAdd, Nat.reduceLT]
  rw [show IntKind.i64.wrap (((2 : Nat) : Int) * ((2 : Nat) : Int)) = ((4 : Nat) : Int) from by decide, show IntKind.i64.wrap ((IntKind.i64.wrap (Int.tdiv (IntKind.i64.wrap (16 + 63)) 64)) * (IntKind.i64.wrap (Int.tdiv (IntKind.i64.wrap (16 + 63)) 64))) = ((1 : Nat) : Int) from by decide]
  simp only [Int.toNat_natCast]
  refine Evp.pos ⟨by decide, by decide⟩ (Evp.pos ⟨by decide, by decide⟩ ?_)
  rw [zl_bool, zl_int]
  have p4 := Pre.app M3 [⟨.fx, (List.replicate 4 false).map Value.bool⟩]
  have p5 := Pre.app (M3 ++ [⟨.fx, (List.replicate 4 false).map Value.bool⟩] : Mem) [⟨.fx, (List.replicate 1 (0 : Int)).map (Value.int .i64)⟩]
  have k1 := (RdB.lit (M := M3) (List.replicate 4 false)).pre p5
  have k2 := RdI.lit (M := (M3 ++ [⟨.fx, (List.replicate 4 false).map Value.bool⟩] : Mem)) (k := .i64) (List.replicate 1 (0 : Int))
  have eu : ∀ M' : Mem, UnOk M' ⟨none, [], 0⟩ := fun M' => ⟨Rd.zero, fun x hx => by simp at hx, by simp⟩
  refine Evp.ret (Run.ret ⟨⟨m0, m1, m2, _, List.replicate 4 false, 4, _, [0], 1, ⟨none, [], 0⟩, ⟨none, [], 0⟩, ⟨none, [], 0⟩⟩, _, rfl, ((p1.trans p2).trans p3).trans (p4.trans p5), ⟨fun n => ?_, k1, k2, by simp, fun n => ?_⟩, ⟨⟨a1, a2, a3, a4, a5⟩, ⟨b1, b2, b3, b4, b5⟩, ⟨c1, c2, c3, c4, c5⟩, rfl, rfl, rfl, rfl, rfl⟩⟩)
  · match n with
    | 0 => exact o1.pre ((p2.trans p3).trans (p4.trans p5))
    | 1 => exact o2.pre (p3.trans (p4.trans p5))
    | n + 2 => exact o3.pre (p4.trans p5)
  · match n with
    | 0 => exact eu _
    | 1 => exact eu _
    | n + 2 => exact eu _
def stepF (i : Nat) : Int := if i % 16 > 7 then 104 else 100
def stepL : List Int := (List.range 256).map stepF
theorem fillF_seti (f : Nat → Int) (n i : Nat) : (fillF f n i).set i (f i) = fillF f n (i + 1) := by
  unfold fillF
  apply List.ext_getElem
  · simp
  · intro j h1 h2
    rw [List.getElem_set]
    simp only [List.getElem_map, List.getElem_range]
    split
    · rename_i e; subst e; rw [if_pos (by omega)]
    · split <;> (try rw [if_pos (by omega)]) <;> (try rw [if_neg (by omega)])
theorem step_loop (M0 : Mem) (a : Addr) (hlo : lo ≤ M0.length) (u v : Int) (A1 A2 : Option Addr) (n1 c1 n2 c2 : Nat) (x0 x1 y1 x2 y2 : Int) (A0 : Option Addr) (n0 c0 : Nat) : ∀ (d i : Nat) (M : Mem), 256 - i = d → i ≤ 256 → Pre M0 M → Buf M0 M a ((fillF stepF 256 i).map (Value.int .u8)) →
    Run P T lo F.zoetropelaw25_step (zoetropelaw25_step.c244 (some a) 256 256 (i : Int) 0 0 none 0 0 0 0 none 0 0 0 0 none 0 0 u v A0 n0 c0 x1 y1 A1 n1 c1 x2 y2 A2 n2 c2 M) fun r => ∃ M', r = (.agg ⟨[.int .i64 16, .int .i64 16, .slice (some a) 256 256, .int .i64 x1, .int .i64 y1, .slice A1 n1 c1, .int .i64 x2, .int .i64 y2, .slice A2 n2 c2]⟩, M') ∧ Pre M0 M' ∧ Buf M0 M' a (stepL.map (Value.int .u8)) := by
  intro d
  induction d with
  | zero =>
    intro i M hd hi hp hb
    obtain rfl : i = 256 := by omega
    refine Run.cut (Evp.of_eq (fun k => zoetropelaw25_step.p244 k ..) ?_)
    refine Evp.dec (fun h => absurd h (by decide)) fun _ => Evp.ret (Run.ret ⟨M, rfl, hp, ?_⟩)
    rw [fillF_full] at hb
    exact hb
  | succ d ih =>
    intro i M hd hi hp hb
    refine Run.cut (Evp.of_eq (fun k => zoetropelaw25_step.p244 k ..) ?_)
    refine Evp.dec (fun _ => ?_) fun h => absurd h (by omega)
    refine Evp.pos (by omega) (Evp.some rfl ?_)
    simp only [Int.toNat_natCast]
    obtain ⟨M1, g1, g2, g3, g4, g5⟩ := hb.st (lo := lo) (i := i) (vs := [.int .u8 100]) hp hlo (by simp [fillF_len]; omega)
    refine Evp.some g1 ?_
    rw [setL_one, set_map] at g2
    have et : Int.tmod (i : Int) 16 = ((i % 16 : Nat) : Int) := rfl
    rw [et]
    refine Evp.dec (fun h => ?_) fun h => ?_
    · refine Evp.pos (by omega) (Evp.some rfl ?_)
      obtain ⟨M2, q1, q2, q3, q4, q5⟩ := g2.st (lo := lo) (i := i) (vs := [.int .u8 104]) g3 hlo (by simp [fillF_len]; omega)
      refine Evp.some q1 (Evp.ret ?_)
      rw [setL_one, set_map, List.set_set] at q2
      have e : (104 : Int) = stepF i := by unfold stepF; rw [if_pos (by omega)]
      rw [e, fillF_seti] at q2
      refine Run.cut (Evp.of_eq (fun k => zoetropelaw25_step.p979 k ..) ?_)
      rw [w64 (x := (i : Int) + 1) (by omega)]
      exact Evp.ret (ih (i + 1) M2 (by omega) (by omega) q3 q2)
    · refine Evp.ret ?_
      have e : (100 : Int) = stepF i := by unfold stepF; rw [if_neg (by omega)]
      rw [e, fillF_seti] at g2
      refine Run.cut (Evp.of_eq (fun k => zoetropelaw25_step.p979 k ..) ?_)
      rw [w64 (x := (i : Int) + 1) (by omega)]
      exact Evp.ret (ih (i + 1) M1 (by omega) (by omega) g3 g2)
structure StepIs (f : Fr3) : Prop where
  w0 : f.p0.w = 16
  h0 : f.p0.h = 16
  x0 : f.p0.xs = stepL
  w1 : f.p1.w = 8
  h1 : f.p1.h = 8
  x1 : f.p1.xs = List.replicate 64 50
  w2 : f.p2.w = 8
  h2 : f.p2.h = 8
  x2 : f.p2.xs = List.replicate 64 50
theorem step_ok (M : Mem) (hlo : lo ≤ M.length) : Ac P T lo F.zoetropelaw25_step [] M fun r => ∃ (f : Fr3) (M' : Mem), r = (.agg ⟨f.cells⟩, M') ∧ Pre M M' ∧ FrIn M' f ∧ StepIs f := by
  refine Ac.of (Evp.of_eq (fun k => zoetropelaw25_step.entry k ..) ?_)
  refine Evp.ob (frame_ok lo 16 16 50 M hlo (by decide)) ?_
  rintro _ ⟨a0, a1, a2, M1, rfl, p1, b0, b1, b2, _⟩
  simp only [ret_int, ret_bool, ret_flt, ret_slc, ret_str, ret_ptr, ret_agg, ret_tup, ob_some, bb_true, bb_false, List.getElem?_cons_zero, List.getElem?_cons_succ, List.length_cons, List.length_nil, Nat.reduceAdd, Nat.reduceLT]
  have l1 := p1.len
  refine Evp.pos ⟨by decide, by decide⟩ ?_
  rw [zl_int, fillF_zero stepF]
  refine Evp.ret ((step_loop lo M1 ⟨M1.length, 0, none⟩ (by omega) _ _ _ _ _ _ _ _ 0 _ _ _ _ _ _ _ 256 0 _ rfl (by omega) (Pre.app _ _) (Buf.push (Pre.refl M1))).mono ?_)
  rintro r ⟨M', rfl, p2, hb⟩
  have hl : stepL.length = 256 := by simp [stepL]
  refine ⟨⟨⟨16, 16, some ⟨M1.length, 0, none⟩, 256, stepL⟩, ⟨8, 8, some a1, 64, List.replicate 64 50⟩, ⟨8, 8, some a2, 64, List.replicate 64 50⟩⟩, M', ?_, p1.trans p2, ⟨fun n hn => ?_, fun n hn => ?_, fun n hn => ?_⟩, ⟨rfl, rfl, rfl, rfl, rfl, rfl, rfl, rfl, rfl⟩⟩
  · simp only [Fr3.cells, hl, List.length_replicate]; rfl
  · rcases lt3 hn with rfl | rfl | rfl
    · exact hb.rdI
    · exact (b1.rdI).pre p2
    · exact (b2.rdI).pre p2
  · rcases lt3 hn with rfl | rfl | rfl
    · show Bytes stepL
      exact byteL (by decide +kernel)
    · show Bytes (List.replicate 64 50)
      exact byteL (by decide +kernel)
    · show Bytes (List.replicate 64 50)
      exact byteL (by decide +kernel)
  · rcases lt3 hn with rfl | rfl | rfl
    · show stepL.length ≤ 256; omega
    · show (List.replicate 64 (50 : Int)).length ≤ 64; simp
    · show (List.replicate 64 (50 : Int)).length ≤ 64; simp
end
end Go.Zt
