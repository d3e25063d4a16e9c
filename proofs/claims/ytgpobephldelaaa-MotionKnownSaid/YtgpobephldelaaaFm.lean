/- That it works at all; what is moved, paired and blended is the document's. -/
import Derived.Test.YtgpobephldelaaaFl
import Derived.Test.YtgpobephldelaaaArg
import Derived.KernelRfl
set_option linter.unusedVariables false
set_option linter.unusedSimpArgs false
set_option maxRecDepth 100000
namespace Go.Zt
theorem rd_src {M : Mem} {A : Option Addr} {k : IntKind} {l h c m : Nat} {xs : List Int} (hr : RdI M k A xs) (h1 : l ≤ h) (h2 : h ≤ xs.length) (hc : xs.length ≤ c) (hm : m = h - l) :
    Mem.src M (Zt.slAddr 1 A l c) m m = some (((xs.drop l).take m).map (Value.int k)) := by
  subst hm
  have := (hr.slAddr h1 h2 hc).src
  rwa [List.length_take, List.length_drop, Nat.min_eq_left (by omega)] at this
theorem slAddr_at {a : Addr} {l c : Nat} (h : l < c) : Zt.slAddr 1 (some a) l c = some (plus a l) := by
  unfold Zt.slAddr
  rw [if_neg (by omega)]; rfl
theorem andle {x : Int} : 0 ≤ andI .u64 x 4294967295 ∧ andI .u64 x 4294967295 ≤ 4294967295 := by
  unfold andI
  have h : (BitVec.ofInt IntKind.u64.bits x &&& BitVec.ofInt IntKind.u64.bits 4294967295).toNat ≤ 4294967295 := by
    rw [BitVec.toNat_and]
    exact Nat.le_trans Nat.and_le_right (by decide)
  rw [wu64 (by omega)]
  omega
theorem shr_small {x : Int} (h : 0 ≤ x ∧ x ≤ 4294967295) : shrI .u64 x 32 = 0 := by
  unfold shrI
  rw [show min 32 IntKind.u64.bits = 32 from rfl, Int.fdiv_eq_ediv_of_nonneg _ (by decide)]
  exact Int.ediv_eq_zero_of_lt h.1 (by omega)
theorem mul64_ok (lo : Nat) (n : Int) (M : Mem) (hn : 0 ≤ n ∧ n ≤ 2147483647) : Ac P T lo F.math_bits_Mul64 [.int .u64 1, .int .u64 n] M fun r => r = (.tuple ⟨[.int .u64 0, .int .u64 n]⟩, M) := by
  refine Ac.of (Evp.of_eq (fun k => math_bits_Mul64.entry k ..) ?_)
  refine Evp.ret (Run.ret ?_)
  have a1 := andle (x := n)
  have a2 : andI .u64 1 4294967295 = 1 := by decide
  have a3 : andI .u64 0 4294967295 = 0 := by decide
  have w0 : IntKind.u64.wrap 0 = 0 := by decide
  simp only [shr_small (x := 1) (by decide), shr_small (x := n) (by omega), a2, Int.zero_mul, Int.one_mul, Int.mul_zero, w0, Int.zero_add, Int.add_zero, wu64 (x := andI .u64 n 4294967295) (by omega), shr_small (x := andI .u64 n 4294967295) (by omega), a3, shr_small (x := 0) (by decide), wu64 (x := n) (by omega)]
theorem mul_ok (lo : Nat) (n : Int) (M : Mem) (hn : 0 ≤ n ∧ n ≤ 2147483647) : Ac P T lo F.math_bits_Mul [.int .u64 1, .int .u64 n] M fun r => r = (.tuple ⟨[.int .u64 0, .int .u64 n]⟩, M) := by
  refine Ac.of (Evp.of_eq (fun k => math_bits_Mul.entry k ..) ?_)
  refine Evp.ob (mul64_ok _ _ _ hn) ?_
  rintro _ rfl
  simp only [ret_int, ret_bool, ret_flt, ret_slc, ret_str, ret_ptr, ret_agg, ret_tup, ob_some, bb_true, bb_false, List.getElem?_cons_zero, List.getElem?_cons_succ, List.length_cons, List.length_nil, Nat.reduceAdd, Nat.reduceLT]
  exact Evp.ret (Run.ret rfl)
def fillR (n : Nat) (v : Int) (i : Nat) : List Int := List.replicate i v ++ List.replicate (n - i) 0
theorem fillR_len {n i : Nat} {v : Int} (h : i ≤ n) : (fillR n v i).length = n := by simp [fillR]; omega
theorem fillR_full (n : Nat) (v : Int) : fillR n v n = List.replicate n v := by simp [fillR]
theorem fillR_set {n i m : Nat} {v : Int} (h : i + m ≤ n) : setL ((fillR n v i).map (Value.int .u8)) i ((List.replicate m v).map (Value.int .u8)) = (fillR n v (i + m)).map (Value.int .u8) := by
  have e1 : (fillR n v i).map (Value.int .u8) = List.replicate i (.int .u8 v) ++ List.replicate m (.int .u8 0) ++ List.replicate (n - i - m) (.int .u8 0) := by
    simp [fillR]; omega
  have e2 : (fillR n v (i + m)).map (Value.int .u8) = List.replicate i (.int .u8 v) ++ List.replicate m (.int .u8 v) ++ List.replicate (n - i - m) (.int .u8 0) := by
    simp [fillR, Nat.sub_sub]
  have := setL_all (List.replicate i (Value.int .u8 v)) (List.replicate m (Value.int .u8 0)) (List.replicate m (Value.int .u8 v)) (List.replicate (n - i - m) (Value.int .u8 0)) (by simp)
  rw [List.length_replicate] at this
  rw [e1, e2, List.map_replicate, this]
theorem repeat_loop (lo : Nat) (M0 : Mem) (a : Addr) (n : Nat) (v : Int) (hn : n ≤ 2147483647) (hlo : lo ≤ M0.length) : ∀ (d i : Nat) (M : Mem), n - i = d → 1 ≤ i → i ≤ n → Pre M0 M → Buf M0 M a ((fillR n v i).map (Value.int .u8)) →
    Run P T lo F.slices_Repeat__uint8_uint8 (slices_Repeat__uint8_uint8.c1016 (some a) n n i M) fun r => ∃ M', r = (.slice (some a) n n, M') ∧ Pre M0 M' ∧ Buf M0 M' a ((List.replicate n v).map (Value.int .u8)) := by
  intro d
  induction d using Nat.strongRecOn with
  | ind d ih =>
    intro i M hd h1 hi hp hb
    refine Run.cut (Evp.of_eq (fun k => slices_Repeat__uint8_uint8.p1016 k ..) ?_)
    refine Evp.dec (fun hlt => ?_) fun hge => ?_
    · refine Evp.pos (by omega) (Evp.pos (by omega) ?_)
      simp only [Int.toNat_natCast, Nat.sub_zero]
      have hmin : Nat.min i (n - i) ≤ i ∧ Nat.min i (n - i) ≤ n - i ∧ 1 ≤ Nat.min i (n - i) := ⟨Nat.min_le_left _ _, Nat.min_le_right _ _, Nat.le_min.2 ⟨h1, by omega⟩⟩
      have hl := fillR_len (v := v) hi
      refine Evp.some (rd_src (h := Nat.min i (n - i)) hb.rdI (by omega) (by omega) (by omega) (by omega)) ?_
      refine Evp.neg (by omega) ?_
      refine Evp.some (slAddr_at (by omega)) ?_
      have e : ((fillR n v i).drop 0).take (Nat.min i (n - i)) = List.replicate (Nat.min i (n - i)) v := by
        unfold fillR
        rw [List.drop_zero, List.take_append_of_le_length (by rw [List.length_replicate]; omega), List.take_replicate, Nat.min_eq_left (a := Nat.min i (n - i)) (by omega)]
      rw [e]
      obtain ⟨M1, g1, g2, g3, g4, g5⟩ := hb.st (lo := lo) (i := i) (vs := (List.replicate (Nat.min i (n - i)) v).map (Value.int .u8)) hp hlo (by rw [List.length_map, List.length_map, hl, List.length_replicate]; omega)
      refine Evp.some g1 ?_
      rw [fillR_set (by omega)] at g2
      rw [w64 (by omega)]
      exact Evp.ret (ih (n - (i + Nat.min i (n - i))) (by omega) (i + Nat.min i (n - i)) M1 rfl (by omega) (by omega) g3 g2)
    · obtain rfl : i = n := by omega
      rw [fillR_full] at hb
      exact Evp.ret (Run.ret ⟨M, rfl, hp, hb⟩)
theorem repeat_ok (lo : Nat) (A : Option Addr) (c : Nat) (v : Int) (n : Int) (M : Mem) (hx : RdI M .u8 A [v]) (hn : 1 ≤ n ∧ n ≤ 2147483647) (hlo : lo ≤ M.length) :
    Ac P T lo F.slices_Repeat__uint8_uint8 [.slice A 1 c, .int .i64 n] M fun r => ∃ a M', r = (.slice (some a) n.toNat n.toNat, M') ∧ Pre M M' ∧ Buf M M' a ((List.replicate n.toNat v).map (Value.int .u8)) := by
  refine Ac.of (Evp.of_eq (fun k => slices_Repeat__uint8_uint8.entry k ..) ?_)
  refine Evp.dec (fun h => absurd h (by omega)) fun _ => ?_
  refine Evp.ret ?_
  refine Run.cut (Evp.of_eq (fun k => slices_Repeat__uint8_uint8.p7 k ..) ?_)
  rw [show IntKind.u64.wrap ((1 : Nat) : Int) = 1 from by decide, wu64 (x := n) (by omega)]
  refine Evp.ob (mul_ok _ _ _ (by omega)) ?_
  rintro _ rfl
  simp only [ret_int, ret_bool, ret_flt, ret_slc, ret_str, ret_ptr, ret_agg, ret_tup, ob_some, bb_true, bb_false, List.getElem?_cons_zero, List.getElem?_cons_succ, List.length_cons, List.length_nil, Nat.reduceAdd, Nat.reduceLT]
  refine Evp.dec (fun h => absurd h (by omega)) fun _ => ?_
  refine Evp.dec (fun h => absurd h (by omega)) fun _ => ?_
  refine Evp.ret ?_
  refine Run.cut (Evp.of_eq (fun k => slices_Repeat__uint8_uint8.p31 k ..) ?_)
  rw [w64 (x := n) (by omega)]
  refine Evp.pos ⟨by omega, by show n.toNat * 1 ≤ 140737488355328; omega⟩ ?_
  have hm : Nat.min 1 n.toNat = 1 := Nat.min_eq_left (by omega)
  rw [hm]
  have hz : zerosL [.int .u8 0] n.toNat = (fillR n.toNat v 0).map (Value.int .u8) := by rw [zerosL_one]; simp [fillR]
  rw [hz]
  refine Evp.some ((hx.pre (Pre.app _ _)).src) (Evp.neg (by omega) ?_)
  obtain ⟨M1, g1, g2, g3, g4, g5⟩ := (Buf.push (cs := (fillR n.toNat v 0).map (Value.int .u8)) (Pre.refl M)).st (lo := lo) (i := 0) (vs := [.int .u8 v]) (Pre.app _ _) hlo (by simp [fillR_len]; omega)
  refine Evp.some g1 ?_
  have := fillR_set (n := n.toNat) (i := 0) (m := 1) (v := v) (by omega)
  rw [show ((List.replicate 1 v).map (Value.int .u8)) = [.int .u8 v] from rfl] at this
  rw [this] at g2
  refine Evp.ret ((repeat_loop lo M _ n.toNat v (by omega) hlo _ (0 + 1) M1 rfl (by omega) (by omega) g3 g2).mono ?_)
  rintro r ⟨M', rfl, h1, h2⟩
  exact ⟨_, M', rfl, h1, h2⟩
theorem new_ok (lo : Nat) (w h v : Int) (M : Mem) (hlo : lo ≤ M.length) :
    Ac P T lo F.plane_New [.int .i64 w, .int .i64 h, .int .u8 v] M fun r => Pre M r.2 ∧ if 1 ≤ w ∧ w ≤ 512 ∧ 1 ≤ h ∧ h ≤ 512 then ∃ a, r.1 = .tuple ⟨[.agg ⟨[.int .i64 w, .int .i64 h, .slice (some a) (w * h).toNat (w * h).toNat]⟩, .int .i64 0]⟩ ∧ Buf M r.2 a ((List.replicate (w * h).toNat v).map (Value.int .u8))
      else r.1 = .tuple ⟨[.agg ⟨[.int .i64 0, .int .i64 0, .slice none 0 0]⟩, .int .i64 2]⟩ := by
  refine Ac.of (Evp.of_eq (fun k => plane_New.entry k ..) ?_)
  refine Evp.ob (sizes_ok ..) ?_
  rintro _ rfl
  simp only [ret_int, ret_bool, ret_flt, ret_slc, ret_str, ret_ptr, ret_agg, ret_tup, ob_some, bb_true, bb_false, List.getElem?_cons_zero, List.getElem?_cons_succ, List.length_cons, List.length_nil, Nat.reduceAdd, Nat.reduceLT]
  refine Evp.nb (fun h1 => ?_) fun h1 => ?_
  · have := of_decide_eq_false h1
    exact Evp.ret (Run.ret ⟨Pre.refl _, by rw [if_neg this]⟩)
  · have h1 := of_decide_eq_true h1
    have hm := area h1
    rw [w64 (by omega)]
    refine Evp.ob (repeat_ok lo _ 1 v (w * h) _ (RdI.lit [v]) (by omega) (by simp; omega)) ?_
    rintro _ ⟨a, M', rfl, p1, hb⟩
    simp only [ret_int, ret_bool, ret_flt, ret_slc, ret_str, ret_ptr, ret_agg, ret_tup, ob_some, bb_true, bb_false, List.getElem?_cons_zero, List.getElem?_cons_succ, List.length_cons, List.length_nil, Nat.reduceAdd, Nat.reduceLT]
    refine Evp.ret (Run.ret ⟨(Pre.app _ _).trans p1, ?_⟩)
    rw [if_pos h1]
    exact ⟨a, rfl, hb.floor (by simp)⟩
theorem new_nat (lo : Nat) (w h : Nat) (v : Int) (M : Mem) (hlo : lo ≤ M.length) (hw : 1 ≤ w ∧ w ≤ 512) (hh : 1 ≤ h ∧ h ≤ 512) :
    Ac P T lo F.plane_New [.int .i64 w, .int .i64 h, .int .u8 v] M fun r => ∃ a M', r = (.tuple ⟨[.agg ⟨[.int .i64 w, .int .i64 h, .slice (some a) (w * h) (w * h)]⟩, .int .i64 0]⟩, M') ∧ Pre M M' ∧ Buf M M' a ((List.replicate (w * h) v).map (Value.int .u8)) := by
  refine Ac.mono (new_ok lo w h v M hlo) ?_
  rintro ⟨r, M'⟩ ⟨hp, h2⟩
  rw [if_pos (by omega), ← Int.natCast_mul] at h2
  simp only [Int.toNat_natCast] at h2
  obtain ⟨a, rfl, hb⟩ := h2
  exact ⟨a, M', rfl, hp, hb⟩
theorem Buf.in_ {M0 M : Mem} {a : Addr} {cs : List Value} (h : Buf M0 M a cs) : a.block < M.length := by
  obtain ⟨k, h1, h2, h3, h4⟩ := h
  exact (List.getElem?_eq_some_iff.1 h3).1
theorem frame_ok (lo : Nat) (w h : Nat) (v : Int) (M : Mem) (hlo : lo ≤ M.length) (hs : sideP w ∧ sideP h) :
    Ac P T lo F.plane_Frame [.int .i64 w, .int .i64 h, .int .u8 v] M fun r => ∃ a0 a1 a2 M', r = (.tuple ⟨[.agg ⟨[.int .i64 w, .int .i64 h, .slice (some a0) (w * h) (w * h), .int .i64 (w / 2 : Nat), .int .i64 (h / 2 : Nat), .slice (some a1) ((w / 2) * (h / 2)) ((w / 2) * (h / 2)), .int .i64 (w / 2 : Nat), .int .i64 (h / 2 : Nat), .slice (some a2) ((w / 2) * (h / 2)) ((w / 2) * (h / 2))]⟩, .int .i64 0]⟩, M') ∧ Pre M M' ∧
      Buf M M' a0 ((List.replicate (w * h) v).map (Value.int .u8)) ∧ Buf M M' a1 ((List.replicate ((w / 2) * (h / 2)) v).map (Value.int .u8)) ∧ Buf M M' a2 ((List.replicate ((w / 2) * (h / 2)) v).map (Value.int .u8)) ∧ a0.block ≠ a1.block ∧ a0.block ≠ a2.block ∧ a1.block ≠ a2.block := by
  have hs' := hs
  unfold sideP at hs'
  refine Ac.of (Evp.of_eq (fun k => plane_Frame.entry k ..) ?_)
  refine Evp.ob (sides_ok ..) ?_
  rintro _ rfl
  simp only [ret_int, ret_bool, ret_flt, ret_slc, ret_str, ret_ptr, ret_agg, ret_tup, ob_some, bb_true, bb_false, List.getElem?_cons_zero, List.getElem?_cons_succ, List.length_cons, List.length_nil, Nat.reduceAdd, Nat.reduceLT]
  refine Evp.ff (by rw [decide_eq_true hs]; rfl) ?_
  refine Evp.ret ?_
  refine Run.cut (Evp.of_eq (fun k => plane_Frame.p244 k ..) ?_)
  refine Evp.tt rfl ?_
  refine Evp.ob (new_nat lo w h v M hlo (by omega) (by omega)) ?_
  rintro _ ⟨a0, M1, rfl, p1, b0⟩
  simp only [ret_int, ret_bool, ret_flt, ret_slc, ret_str, ret_ptr, ret_agg, ret_tup, ob_some, bb_true, bb_false, List.getElem?_cons_zero, List.getElem?_cons_succ, List.length_cons, List.length_nil, Nat.reduceAdd, Nat.reduceLT]
  refine Evp.ff rfl (Evp.pos (by decide) (Evp.pos (Nat.le_of_ble_eq_true rfl) (Evp.tt rfl ?_)))
  have t1 : Int.tdiv ((w : Nat) : Int) 2 = ((w / 2 : Nat) : Int) := rfl
  have t2 : Int.tdiv ((h : Nat) : Int) 2 = ((h / 2 : Nat) : Int) := rfl
  rw [t1, t2, w64 (x := ((w / 2 : Nat) : Int)) (by omega), w64 (x := ((h / 2 : Nat) : Int)) (by omega)]
  refine Evp.ret ?_
  refine Run.cut (Evp.of_eq (fun k => plane_Frame.p1959 k ..) ?_)
  rw [show IntKind.i64.wrap (0 + 1) = 1 from by decide]
  refine Evp.ret ?_
  have l1 := p1.len
  refine Run.cut (Evp.of_eq (fun k => plane_Frame.p244 k ..) ?_)
  refine Evp.tt rfl ?_
  refine Evp.ob (new_nat lo (w / 2) (h / 2) v M1 (by omega) (by omega) (by omega)) ?_
  rintro _ ⟨a1, M2, rfl, p2, b1⟩
  simp only [ret_int, ret_bool, ret_flt, ret_slc, ret_str, ret_ptr, ret_agg, ret_tup, ob_some, bb_true, bb_false, List.getElem?_cons_zero, List.getElem?_cons_succ, List.length_cons, List.length_nil, Nat.reduceAdd, Nat.reduceLT]
  refine Evp.ff rfl (Evp.pos (by decide) (Evp.pos (Nat.le_of_ble_eq_true rfl) (Evp.ff rfl ?_)))
  refine Evp.ret ?_
  refine Run.cut (Evp.of_eq (fun k => plane_Frame.p1959 k ..) ?_)
  rw [show IntKind.i64.wrap (1 + 1) = 2 from by decide]
  refine Evp.ret ?_
  have l2 := p2.len
  refine Run.cut (Evp.of_eq (fun k => plane_Frame.p244 k ..) ?_)
  refine Evp.tt rfl ?_
  refine Evp.ob (new_nat lo (w / 2) (h / 2) v M2 (by omega) (by omega) (by omega)) ?_
  rintro _ ⟨a2, M3, rfl, p3, b2⟩
  simp only [ret_int, ret_bool, ret_flt, ret_slc, ret_str, ret_ptr, ret_agg, ret_tup, ob_some, bb_true, bb_false, List.getElem?_cons_zero, List.getElem?_cons_succ, List.length_cons, List.length_nil, Nat.reduceAdd, Nat.reduceLT]
  refine Evp.ff rfl (Evp.pos (by decide) (Evp.pos (Nat.le_of_ble_eq_true rfl) (Evp.ff rfl ?_)))
  refine Evp.ret ?_
  refine Run.cut (Evp.of_eq (fun k => plane_Frame.p1959 k ..) ?_)
  rw [show IntKind.i64.wrap (2 + 1) = 3 from by decide]
  refine Evp.ret ?_
  refine Run.cut (Evp.of_eq (fun k => plane_Frame.p244 k ..) ?_)
  refine Evp.ff rfl ?_
  refine Evp.some rfl (Evp.some rfl (Evp.some rfl (Evp.some rfl (Evp.some rfl (Evp.some rfl (Evp.some rfl (Evp.some rfl (Evp.some rfl ?_))))))))
  have i0 := b0.in_
  have i1 := b1.in_
  have n1 := b1.new
  have n2 := b2.new
  exact Evp.ret (Run.ret ⟨a0, a1, a2, M3, rfl, (p1.trans p2).trans p3, b0.pre (p2.trans p3), (b1.floor l1).pre p3, b2.floor (by omega), by omega, by omega, by omega⟩)
theorem flat_loop (lo : Nat) (n : Nat) (v : Int) (M0 : Mem) (a : Addr) (c : Nat) (hn : n ≤ 140737488351232) (hlo : lo ≤ M0.length) : ∀ (d i : Nat) (zs : List Int) (M : Mem), n - i = d → i ≤ n → zs.length = n → (∀ j, j < i → zs.getD j 0 = v) → Pre M0 M → Buf M0 M a (zs.map (Value.int .u8)) →
    Run P T lo F.zoetropelaw15_flat (zoetropelaw15_flat.c116 (n : Int) v (some a) n c i M) fun r => ∃ M', r = (.slice (some a) n c, M') ∧ Pre M0 M' ∧ Buf M0 M' a ((List.replicate n v).map (Value.int .u8)) := by
  intro d
  induction d with
  | zero =>
    intro i zs M hd hi hl hz hp hb
    refine Run.cut (Evp.of_eq (fun k => zoetropelaw15_flat.p116 k ..) ?_)
    refine Evp.dec (fun h => absurd h (by omega)) fun _ => ?_
    have e : zs = List.replicate n v := ext_getD (by simp [hl]) fun j hj => by
      rw [hz j (by omega), List.getD_eq_getElem?_getD, List.getElem?_replicate, if_pos (by omega)]; rfl
    exact Evp.ret (Run.ret ⟨M, rfl, hp, e ▸ hb⟩)
  | succ d ih =>
    intro i zs M hd hi hl hz hp hb
    refine Run.cut (Evp.of_eq (fun k => zoetropelaw15_flat.p116 k ..) ?_)
    refine Evp.dec (fun _ => ?_) fun h => absurd h (by omega)
    refine Evp.pos (by omega) (Evp.some rfl ?_)
    simp only [Int.toNat_natCast]
    obtain ⟨M', h1, h2, h3, h4, h5⟩ := hb.st (lo := lo) (i := i) (vs := [.int .u8 v]) hp hlo (by simp; omega)
    refine Evp.some h1 ?_
    rw [setL_one, set_map] at h2
    rw [w64 (by omega)]
    exact Evp.ret (ih (i + 1) _ M' (by omega) (by omega) (by simpa using hl) (fun j hj => by
      rw [getD_set (by omega)]
      split
      · rfl
      · exact hz j (by omega)) h3 h2)
theorem flat_ok (lo : Nat) (n : Nat) (v : Int) (M : Mem) (hn : n ≤ 140737488351232) (hlo : lo ≤ M.length) : Ac P T lo F.zoetropelaw15_flat [.int .i64 (n : Nat), .int .u8 v] M fun r => ∃ a M', r = (.slice (some a) n n, M') ∧ Pre M M' ∧ Buf M M' a ((List.replicate n v).map (Value.int .u8)) := by
  refine Ac.of (Evp.of_eq (fun k => zoetropelaw15_flat.entry k ..) ?_)
  refine Evp.pos ⟨by omega, by show _ * 1 ≤ _; omega⟩ ?_
  simp only [Int.toNat_natCast]
  refine Evp.ret (Run.mono (flat_loop lo n v M ⟨M.length, 0, none⟩ n hn hlo _ 0 (List.replicate n 0) _ rfl (by omega) (by simp) (fun j hj => absurd hj (by omega)) (Pre.app _ _) ?_) ?_)
  · rw [zerosL_one, List.map_replicate]
    exact Buf.push (Pre.refl _)
  · rintro _ ⟨M', rfl, p, b⟩
    exact ⟨_, M', rfl, p, b⟩
theorem rep_bytes {n : Nat} {v : Int} (hv : 0 ≤ v ∧ v ≤ 255) : Bytes (List.replicate n v) := fun x hx => by rw [List.eq_of_mem_replicate hx]; exact hv
theorem byl {l : List Int} (h : l.all (fun x => decide (0 ≤ x) && decide (x ≤ 255)) = true) : Bytes l := fun x hx => by
  have := List.all_eq_true.1 h x hx
  simpa using this
theorem works_ok (lo : Nat) (M : Mem) (hlo : lo ≤ M.length) : Ac P T lo F.zoetropelaw15_works [] M fun r => ∃ M', r = (.bool true, M') ∧ Pre M M' := by
  refine Ac.of (Evp.of_eq (fun k => zoetropelaw15_works.entry k ..) ?_)
  refine Evp.ob (flat_ok lo 8 100 M (by omega) hlo) ?_
  rintro _ ⟨a1, M1, rfl, p1, b1⟩
  simp only [ret_int, ret_bool, ret_flt, ret_slc, ret_str, ret_ptr, ret_agg, ret_tup, ob_some, bb_true, bb_false, List.getElem?_cons_zero, List.getElem?_cons_succ, List.length_cons, List.length_nil, Nat.reduceAdd, Nat.reduceLT]
  refine Evp.ob (flat_ok lo 4 0 M1 (by omega) (Nat.le_trans hlo p1.len)) ?_
  rintro _ ⟨a2, M2, rfl, p2, b2⟩
  simp only [ret_int, ret_bool, ret_flt, ret_slc, ret_str, ret_ptr, ret_agg, ret_tup, ob_some, bb_true, bb_false, List.getElem?_cons_zero, List.getElem?_cons_succ, List.length_cons, List.length_nil, Nat.reduceAdd, Nat.reduceLT]
  have q2 := p1.trans p2
  refine Evp.ob (above_ok lo (some a1) (some a2) 8 4 (List.replicate 8 100) (List.replicate 4 0) M2 2 0 0 1 4 (Nat.le_trans hlo q2.len) (b1.rdI.pre p2) b2.rdI (rep_bytes (by omega)) (rep_bytes (by omega)) (by decide)) ?_
  rintro ⟨v, M3⟩ h3
  obtain ⟨a3, c3, rfl, p3, _, o3⟩ := h3.got (by decide)
  have e3 : blS true (List.replicate 8 100) (List.replicate 4 0) (2 : Int).toNat (0 : Int).toNat (0 : Int).toNat (1 : Int).toNat (4 : Int).toNat (List.replicate 4 (0 : Int)).length = [56, 100, 69, 100, 81, 100, 94, 100] := by decide +kernel
  rw [e3] at o3
  simp only [ret_int, ret_bool, ret_flt, ret_slc, ret_str, ret_ptr, ret_agg, ret_tup, ob_some, bb_true, bb_false, List.getElem?_cons_zero, List.getElem?_cons_succ, List.length_cons, List.length_nil, Nat.reduceAdd, Nat.reduceLT]
  have q3 := q2.trans p3
  refine Evp.ob (flat_ok lo 8 100 M3 (by omega) (Nat.le_trans hlo q3.len)) ?_
  rintro _ ⟨a4, M4, rfl, p4, b4⟩
  simp only [ret_int, ret_bool, ret_flt, ret_slc, ret_str, ret_ptr, ret_agg, ret_tup, ob_some, bb_true, bb_false, List.getElem?_cons_zero, List.getElem?_cons_succ, List.length_cons, List.length_nil, Nat.reduceAdd, Nat.reduceLT]
  have q4 := q3.trans p4
  refine Evp.ob (flat_ok lo 4 200 M4 (by omega) (Nat.le_trans hlo q4.len)) ?_
  rintro _ ⟨a5, M5, rfl, p5, b5⟩
  simp only [ret_int, ret_bool, ret_flt, ret_slc, ret_str, ret_ptr, ret_agg, ret_tup, ob_some, bb_true, bb_false, List.getElem?_cons_zero, List.getElem?_cons_succ, List.length_cons, List.length_nil, Nat.reduceAdd, Nat.reduceLT]
  have q5 := q4.trans p5
  refine Evp.ob (left_ok lo (some a4) (some a5) 8 4 (List.replicate 8 100) (List.replicate 4 200) M5 4 0 1 4 1 (Nat.le_trans hlo q5.len) (b4.rdI.pre p5) b5.rdI (rep_bytes (by omega)) (rep_bytes (by omega)) (by decide)) ?_
  rintro ⟨v, M6⟩ h6
  obtain ⟨a6, c6, rfl, p6, _, o6⟩ := h6.got (by decide)
  have e6 : blS false (List.replicate 8 100) (List.replicate 4 200) (4 : Int).toNat (0 : Int).toNat (1 : Int).toNat (4 : Int).toNat (1 : Int).toNat (List.replicate 4 (200 : Int)).length = [100, 100, 100, 100, 144, 131, 119, 106] := by decide +kernel
  rw [e6] at o6
  simp only [ret_int, ret_bool, ret_flt, ret_slc, ret_str, ret_ptr, ret_agg, ret_tup, ob_some, bb_true, bb_false, List.getElem?_cons_zero, List.getElem?_cons_succ, List.length_cons, List.length_nil, Nat.reduceAdd, Nat.reduceLT]
  have q6 := q5.trans p6
  have p7 := Pre.app M6 [⟨.fx, ([0, 1, 255] : List Int).map (Value.int .u8)⟩]
  have p8 := Pre.app (M6 ++ [⟨.fx, ([0, 1, 255] : List Int).map (Value.int .u8)⟩]) [⟨.fx, ([1, 2, 255] : List Int).map (Value.int .u8)⟩]
  have q8 := (q6.trans p7).trans p8
  have hy8 := RdI.lit (M := (M6 ++ [⟨.fx, ([0, 1, 255] : List Int).map (Value.int .u8)⟩] : Mem)) (k := .u8) [1, 2, 255]
  refine Evp.ob (pair_ok lo (some ⟨M6.length, 0, none⟩) _ 3 3 [0, 1, 255] [1, 2, 255] _ (Nat.le_trans hlo q8.len) ((RdI.lit (k := .u8) [0, 1, 255]).pre p8) hy8 (byl rfl) (byl rfl) (by decide)) ?_
  rintro ⟨v, M9⟩ h9
  obtain ⟨a9, c9, rfl, p9, _, o9⟩ := h9.got (by decide)
  have e9 : pL [0, 1, 255] [1, 2, 255] = [1, 2, 255] := by decide +kernel
  rw [e9] at o9
  simp only [ret_int, ret_bool, ret_flt, ret_slc, ret_str, ret_ptr, ret_agg, ret_tup, ob_some, bb_true, bb_false, List.getElem?_cons_zero, List.getElem?_cons_succ, List.length_cons, List.length_nil, Nat.reduceAdd, Nat.reduceLT]
  have q9 := q8.trans p9
  refine Evp.ob (frame_ok lo 16 16 9 M9 (Nat.le_trans hlo q9.len) (by decide)) ?_
  rintro _ ⟨f0, f1, f2, M10, rfl, p10, g0, g1, g2, _⟩
  simp only [ret_int, ret_bool, ret_flt, ret_slc, ret_str, ret_ptr, ret_agg, ret_tup, ob_some, bb_true, bb_false, List.getElem?_cons_zero, List.getElem?_cons_succ, List.length_cons, List.length_nil, Nat.reduceAdd, Nat.reduceLT]
  have q10 := q9.trans p10
  have fx := single_ok lo 16 16 8 8 8 8 (some f0) (some f1) (some f2) 256 64 64 (List.replicate 256 9) (List.replicate 64 9) (List.replicate 64 9) 1 0 0 4 4 5 (-7) 0 M10 g0.rdI g1.rdI g2.rdI (rep_bytes (by omega)) (rep_bytes (by omega)) (rep_bytes (by omega)) (by decide) (by decide) (by decide) (Nat.le_trans hlo q10.len)
  refine Evp.ob fx ?_
  intro r hr
  obtain ⟨l, e, B, cc, M11, rfl, p11, _, o11, _, q, hq, el, ee, qi⟩ := hr.cases
  have hqt : q := qi.2 (by decide +kernel)
  rw [if_pos hqt] at el ee
  have e11 : singleL 16 16 8 8 8 8 (List.replicate 256 9) (List.replicate 64 9) (List.replicate 64 9) 1 0 0 4 4 5 (-7) 0 = List.replicate 16 9 := by decide +kernel
  rw [e11] at el
  subst ee; subst el
  simp only [ret_int, ret_bool, ret_flt, ret_slc, ret_str, ret_ptr, ret_agg, ret_tup, ob_some, bb_true, bb_false, List.getElem?_cons_zero, List.getElem?_cons_succ, List.length_cons, List.length_nil, Nat.reduceAdd, Nat.reduceLT]
  have q11 := q10.trans p11
  refine Evp.tt rfl (Evp.tt rfl (Evp.tt rfl (Evp.tt rfl (Evp.tt rfl ?_))))
  have p12 := Pre.app M11 [⟨.fx, ([56, 100, 69, 100, 81, 100, 94, 100] : List Int).map (Value.int .u8)⟩]
  refine Evp.ob (eqBytes_ok _ _ _ _ _ [56, 100, 69, 100, 81, 100, 94, 100] _ _ ((((((((o3.rd.pre p4).pre p5).pre p6).pre (p7.trans p8)).pre p9).pre p10).pre p11).pre p12) (RdI.lit (k := .u8) [56, 100, 69, 100, 81, 100, 94, 100]) (by decide)) ?_
  rintro _ rfl
  simp only [ret_int, ret_bool, ret_flt, ret_slc, ret_str, ret_ptr, ret_agg, ret_tup, ob_some, bb_true, bb_false, List.getElem?_cons_zero, List.getElem?_cons_succ, List.length_cons, List.length_nil, Nat.reduceAdd, Nat.reduceLT]
  refine Evp.tt rfl ?_
  have p13 := Pre.app (M11 ++ [⟨.fx, ([56, 100, 69, 100, 81, 100, 94, 100] : List Int).map (Value.int .u8)⟩]) [⟨.fx, ([100, 100, 100, 100, 144, 131, 119, 106] : List Int).map (Value.int .u8)⟩]
  refine Evp.ob (eqBytes_ok _ _ _ _ _ [100, 100, 100, 100, 144, 131, 119, 106] _ _ ((((((o6.rd.pre (p7.trans p8)).pre p9).pre p10).pre p11).pre p12).pre p13) (RdI.lit (k := .u8) [100, 100, 100, 100, 144, 131, 119, 106]) (by decide)) ?_
  rintro _ rfl
  simp only [ret_int, ret_bool, ret_flt, ret_slc, ret_str, ret_ptr, ret_agg, ret_tup, ob_some, bb_true, bb_false, List.getElem?_cons_zero, List.getElem?_cons_succ, List.length_cons, List.length_nil, Nat.reduceAdd, Nat.reduceLT]
  refine Evp.tt rfl ?_
  have p14 := Pre.app ((M11 ++ [⟨.fx, ([56, 100, 69, 100, 81, 100, 94, 100] : List Int).map (Value.int .u8)⟩]) ++ [⟨.fx, ([100, 100, 100, 100, 144, 131, 119, 106] : List Int).map (Value.int .u8)⟩]) [⟨.fx, ([1, 2, 255] : List Int).map (Value.int .u8)⟩]
  refine Evp.ob (eqBytes_ok _ _ _ _ _ [1, 2, 255] _ _ (((((o9.rd.pre p10).pre p11).pre p12).pre p13).pre p14) (RdI.lit (k := .u8) [1, 2, 255]) (by decide)) ?_
  rintro _ rfl
  simp only [ret_int, ret_bool, ret_flt, ret_slc, ret_str, ret_ptr, ret_agg, ret_tup, ob_some, bb_true, bb_false, List.getElem?_cons_zero, List.getElem?_cons_succ, List.length_cons, List.length_nil, Nat.reduceAdd, Nat.reduceLT]
  refine Evp.tt rfl ?_
  have q14 := ((q11.trans p12).trans p13).trans p14
  refine Evp.ob (flat_ok lo 16 9 _ (by omega) (Nat.le_trans hlo q14.len)) ?_
  rintro _ ⟨a15, M15, rfl, p15, b15⟩
  simp only [ret_int, ret_bool, ret_flt, ret_slc, ret_str, ret_ptr, ret_agg, ret_tup, ob_some, bb_true, bb_false, List.getElem?_cons_zero, List.getElem?_cons_succ, List.length_cons, List.length_nil, Nat.reduceAdd, Nat.reduceLT]
  refine Evp.ob (eqBytes_ok _ _ _ _ _ (List.replicate 16 9) (List.replicate 16 9) _ (((((o11.rd.pre p12).pre p13).pre p14).pre p15)) b15.rdI (by decide)) ?_
  rintro _ rfl
  simp only [ret_int, ret_bool, ret_flt, ret_slc, ret_str, ret_ptr, ret_agg, ret_tup, ob_some, bb_true, bb_false, List.getElem?_cons_zero, List.getElem?_cons_succ, List.length_cons, List.length_nil, Nat.reduceAdd, Nat.reduceLT]
  exact Evp.ret (Run.ret ⟨M15, by simp, q14.trans p15⟩)
end Go.Zt
