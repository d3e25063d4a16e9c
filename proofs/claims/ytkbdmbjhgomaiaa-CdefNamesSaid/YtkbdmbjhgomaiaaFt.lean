/- What CdefNames needs: the laws of directions and limits at any floor; loading of a head; places that are filled one after another. -/
import Derived.Test.YtkbdmbjhgomaiaaFr
set_option linter.unusedVariables false
set_option linter.unusedSimpArgs false
set_option maxRecDepth 100000
namespace Go.Zt
theorem zerosL_one (v : Value) (n : Nat) : zerosL [v] n = List.replicate n v := by
  unfold zerosL
  induction n with
  | zero => rfl
  | succ n ih => rw [List.replicate_succ, List.flatten_cons, ih]; rfl
theorem andle {x : Int} : 0 ≤ andI .u64 x 4294967295 ∧ andI .u64 x 4294967295 ≤ 4294967295 := by
  unfold andI
  have h : (BitVec.ofInt IntKind.u64.bits x &&& BitVec.ofInt IntKind.u64.bits 4294967295).toNat ≤ 4294967295 := by
    rw [BitVec.toNat_and]
    exact Nat.le_trans Nat.and_le_right (by decide)
  rw [wu64 (by omega)]
  omega
theorem shr_small {x : Int} (h : 0 ≤ x ∧ x ≤ 4294967295) : shrI .u64 x 32 = 0 := by
  unfold shrI
  rw [show min 32 IntKind.u64.bits = 32 from rfl, Int.fdiv_eq_ediv_of_nonneg _ (by decide)]
  exact Int.ediv_eq_zero_of_lt h.1 (by omega)
theorem mul64_ok (lo : Nat) (n : Int) (M : Mem) (hn : 0 ≤ n ∧ n ≤ 2147483647) : Ac P T lo F.math_bits_Mul64 [.int .u64 1, .int .u64 n] M fun r => r = (.tuple ⟨[.int .u64 0, .int .u64 n]⟩, M) := by
  refine Ac.of (Evp.of_eq (fun k => math_bits_Mul64.entry k ..) ?_)
  refine Evp.ret (Run.ret ?_)
  have a1 := andle (x := n)
  have a2 : andI .u64 1 4294967295 = 1 := by decide
  have a3 : andI .u64 0 4294967295 = 0 := by decide
  have w0 : IntKind.u64.wrap 0 = 0 := by decide
  simp only [shr_small (x := 1) (by decide), shr_small (x := n) (by omega), a2, Int.zero_mul, Int.one_mul, Int.mul_zero, w0, Int.zero_add, Int.add_zero, wu64 (x := andI .u64 n 4294967295) (by omega), shr_small (x := andI .u64 n 4294967295) (by omega), a3, shr_small (x := 0) (by decide), wu64 (x := n) (by omega)]
theorem mul_ok (lo : Nat) (n : Int) (M : Mem) (hn : 0 ≤ n ∧ n ≤ 2147483647) : Ac P T lo F.math_bits_Mul [.int .u64 1, .int .u64 n] M fun r => r = (.tuple ⟨[.int .u64 0, .int .u64 n]⟩, M) := by
  refine Ac.of (Evp.of_eq (fun k => math_bits_Mul.entry k ..) ?_)
  refine Evp.ob (mul64_ok _ _ _ hn) ?_
  rintro _ rfl
  simp only [ret_int, ret_bool, ret_flt, ret_slc, ret_str, ret_ptr, ret_agg, ret_tup, ob_some, bb_true, bb_false, List.getElem?_cons_zero, List.getElem?_cons_succ, List.length_cons, List.length_nil, Nat.reduceAdd, Nat.reduceLT]
  exact Evp.ret (Run.ret rfl)
theorem rd_src {M : Mem} {A : Option Addr} {k : IntKind} {l h c m : Nat} {xs : List Int} (hr : RdI M k A xs) (h1 : l ≤ h) (h2 : h ≤ xs.length) (hc : xs.length ≤ c) (hm : m = h - l) :
    Mem.src M (Zt.slAddr 1 A l c) m m = some (((xs.drop l).take m).map (Value.int k)) := by
  subst hm
  have := (hr.slAddr h1 h2 hc).src
  rwa [List.length_take, List.length_drop, Nat.min_eq_left (by omega)] at this
theorem slAddr_at {a : Addr} {l c : Nat} (h : l < c) : Zt.slAddr 1 (some a) l c = some (plus a l) := by
  unfold Zt.slAddr
  rw [if_neg (by omega)]; rfl
def fillR (n : Nat) (v : Int) (i : Nat) : List Int := List.replicate i v ++ List.replicate (n - i) 0
theorem fillR_len {n i : Nat} {v : Int} (h : i ≤ n) : (fillR n v i).length = n := by simp [fillR]; omega
theorem fillR_full (n : Nat) (v : Int) : fillR n v n = List.replicate n v := by simp [fillR]
theorem fillR_set {n i m : Nat} {v : Int} (h : i + m ≤ n) : setL ((fillR n v i).map (Value.int .u8)) i ((List.replicate m v).map (Value.int .u8)) = (fillR n v (i + m)).map (Value.int .u8) := by
  have e1 : (fillR n v i).map (Value.int .u8) = List.replicate i (.int .u8 v) ++ List.replicate m (.int .u8 0) ++ List.replicate (n - i - m) (.int .u8 0) := by
    simp [fillR]; omega
  have e2 : (fillR n v (i + m)).map (Value.int .u8) = List.replicate i (.int .u8 v) ++ List.replicate m (.int .u8 v) ++ List.replicate (n - i - m) (.int .u8 0) := by
    simp [fillR, Nat.sub_sub]
  have := setL_all (List.replicate i (Value.int .u8 v)) (List.replicate m (Value.int .u8 0)) (List.replicate m (Value.int .u8 v)) (List.replicate (n - i - m) (Value.int .u8 0)) (by simp)
  rw [List.length_replicate] at this
  rw [e1, e2, List.map_replicate, this]
theorem repeat_loop (lo : Nat) (M0 : Mem) (a : Addr) (n : Nat) (v : Int) (hn : n ≤ 2147483647) (hlo : lo ≤ M0.length) : ∀ (d i : Nat) (M : Mem), n - i = d → 1 ≤ i → i ≤ n → Pre M0 M → Buf M0 M a ((fillR n v i).map (Value.int .u8)) →
    Run P T lo F.slices_Repeat__uint8_uint8 (slices_Repeat__uint8_uint8.c1016 (some a) n n i M) fun r => ∃ M', r = (.slice (some a) n n, M') ∧ Pre M0 M' ∧ Buf M0 M' a ((List.replicate n v).map (Value.int .u8)) := by
  intro d
  induction d using Nat.strongRecOn with
  | ind d ih =>
    intro i M hd h1 hi hp hb
    refine Run.cut (Evp.of_eq (fun k => slices_Repeat__uint8_uint8.p1016 k ..) ?_)
    refine Evp.dec (fun hlt => ?_) fun hge => ?_
    · refine Evp.pos (by omega) (Evp.pos (by omega) ?_)
      simp only [Int.toNat_natCast, Nat.sub_zero]
      have hmin : Nat.min i (n - i) ≤ i ∧ Nat.min i (n - i) ≤ n - i ∧ 1 ≤ Nat.min i (n - i) := ⟨Nat.min_le_left _ _, Nat.min_le_right _ _, Nat.le_min.2 ⟨h1, by omega⟩⟩
      have hl := fillR_len (v := v) hi
      refine Evp.some (rd_src (h := Nat.min i (n - i)) hb.rdI (by omega) (by omega) (by omega) (by omega)) ?_
      refine Evp.neg (by omega) ?_
      refine Evp.some (slAddr_at (by omega)) ?_
      have e : ((fillR n v i).drop 0).take (Nat.min i (n - i)) = List.replicate (Nat.min i (n - i)) v := by
        unfold fillR
        rw [List.drop_zero, List.take_append_of_le_length (by rw [List.length_replicate]; omega), List.take_replicate, Nat.min_eq_left (a := Nat.min i (n - i)) (by omega)]
      rw [e]
      obtain ⟨M1, g1, g2, g3, g4, g5⟩ := hb.st (lo := lo) (i := i) (vs := (List.replicate (Nat.min i (n - i)) v).map (Value.int .u8)) hp hlo (by rw [List.length_map, List.length_map, hl, List.length_replicate]; omega)
      refine Evp.some g1 ?_
      rw [fillR_set (by omega)] at g2
      rw [w64 (by omega)]
      exact Evp.ret (ih (n - (i + Nat.min i (n - i))) (by omega) (i + Nat.min i (n - i)) M1 rfl (by omega) (by omega) g3 g2)
    · obtain rfl : i = n := by omega
      rw [fillR_full] at hb
      exact Evp.ret (Run.ret ⟨M, rfl, hp, hb⟩)
theorem repeat_ok (lo : Nat) (A : Option Addr) (c : Nat) (v : Int) (n : Int) (M : Mem) (hx : RdI M .u8 A [v]) (hn : 1 ≤ n ∧ n ≤ 2147483647) (hlo : lo ≤ M.length) :
    Ac P T lo F.slices_Repeat__uint8_uint8 [.slice A 1 c, .int .i64 n] M fun r => ∃ a M', r = (.slice (some a) n.toNat n.toNat, M') ∧ Pre M M' ∧ Buf M M' a ((List.replicate n.toNat v).map (Value.int .u8)) := by
  refine Ac.of (Evp.of_eq (fun k => slices_Repeat__uint8_uint8.entry k ..) ?_)
  refine Evp.dec (fun h => absurd h (by omega)) fun _ => ?_
  refine Evp.ret ?_
  refine Run.cut (Evp.of_eq (fun k => slices_Repeat__uint8_uint8.p7 k ..) ?_)
  rw [show IntKind.u64.wrap ((1 : Nat) : Int) = 1 from by decide, wu64 (x := n) (by omega)]
  refine Evp.ob (mul_ok _ _ _ (by omega)) ?_
  rintro _ rfl
  simp only [ret_int, ret_bool, ret_flt, ret_slc, ret_str, ret_ptr, ret_agg, ret_tup, ob_some, bb_true, bb_false, List.getElem?_cons_zero, List.getElem?_cons_succ, List.length_cons, List.length_nil, Nat.reduceAdd, Nat.reduceLT]
  refine Evp.dec (fun h => absurd h (by omega)) fun _ => ?_
  refine Evp.dec (fun h => absurd h (by omega)) fun _ => ?_
  refine Evp.ret ?_
  refine Run.cut (Evp.of_eq (fun k => slices_Repeat__uint8_uint8.p31 k ..) ?_)
  rw [w64 (x := n) (by omega)]
  refine Evp.pos ⟨by omega, by show n.toNat * 1 ≤ 140737488355328; omega⟩ ?_
  have hm : Nat.min 1 n.toNat = 1 := Nat.min_eq_left (by omega)
  rw [hm]
  have hz : zerosL [.int .u8 0] n.toNat = (fillR n.toNat v 0).map (Value.int .u8) := by rw [zerosL_one]; simp [fillR]
  rw [hz]
  refine Evp.some ((hx.pre (Pre.app _ _)).src) (Evp.neg (by omega) ?_)
  obtain ⟨M1, g1, g2, g3, g4, g5⟩ := (Buf.push (cs := (fillR n.toNat v 0).map (Value.int .u8)) (Pre.refl M)).st (lo := lo) (i := 0) (vs := [.int .u8 v]) (Pre.app _ _) hlo (by simp [fillR_len]; omega)
  refine Evp.some g1 ?_
  have := fillR_set (n := n.toNat) (i := 0) (m := 1) (v := v) (by omega)
  rw [show ((List.replicate 1 v).map (Value.int .u8)) = [.int .u8 v] from rfl] at this
  rw [this] at g2
  refine Evp.ret ((repeat_loop lo M _ n.toNat v (by omega) hlo _ (0 + 1) M1 rfl (by omega) (by omega) g3 g2).mono ?_)
  rintro r ⟨M', rfl, h1, h2⟩
  exact ⟨_, M', rfl, h1, h2⟩
theorem new_ok (lo : Nat) (w h v : Int) (M : Mem) (hlo : lo ≤ M.length) :
    Ac P T lo F.plane_New [.int .i64 w, .int .i64 h, .int .u8 v] M fun r => Pre M r.2 ∧ if 1 ≤ w ∧ w ≤ 512 ∧ 1 ≤ h ∧ h ≤ 512 then ∃ a, r.1 = .tuple ⟨[.agg ⟨[.int .i64 w, .int .i64 h, .slice (some a) (w * h).toNat (w * h).toNat]⟩, .int .i64 0]⟩ ∧ Buf M r.2 a ((List.replicate (w * h).toNat v).map (Value.int .u8))
      else r.1 = .tuple ⟨[.agg ⟨[.int .i64 0, .int .i64 0, .slice none 0 0]⟩, .int .i64 2]⟩ := by
  refine Ac.of (Evp.of_eq (fun k => plane_New.entry k ..) ?_)
  refine Evp.ob (sizes_ok ..) ?_
  rintro _ rfl
  simp only [ret_int, ret_bool, ret_flt, ret_slc, ret_str, ret_ptr, ret_agg, ret_tup, ob_some, bb_true, bb_false, List.getElem?_cons_zero, List.getElem?_cons_succ, List.length_cons, List.length_nil, Nat.reduceAdd, Nat.reduceLT]
  refine Evp.nb (fun h1 => ?_) fun h1 => ?_
  · have := of_decide_eq_false h1
    exact Evp.ret (Run.ret ⟨Pre.refl _, by rw [if_neg this]⟩)
  · have h1 := of_decide_eq_true h1
    have hm := area h1
    rw [w64 (by omega)]
    refine Evp.ob (repeat_ok lo _ 1 v (w * h) _ (RdI.lit [v]) (by omega) (by simp; omega)) ?_
    rintro _ ⟨a, M', rfl, p1, hb⟩
    simp only [ret_int, ret_bool, ret_flt, ret_slc, ret_str, ret_ptr, ret_agg, ret_tup, ob_some, bb_true, bb_false, List.getElem?_cons_zero, List.getElem?_cons_succ, List.length_cons, List.length_nil, Nat.reduceAdd, Nat.reduceLT]
    refine Evp.ret (Run.ret ⟨(Pre.app _ _).trans p1, ?_⟩)
    rw [if_pos h1]
    exact ⟨a, rfl, hb.floor (by simp)⟩
theorem new_nat (lo : Nat) (w h : Nat) (v : Int) (M : Mem) (hlo : lo ≤ M.length) (hw : 1 ≤ w ∧ w ≤ 512) (hh : 1 ≤ h ∧ h ≤ 512) :
    Ac P T lo F.plane_New [.int .i64 w, .int .i64 h, .int .u8 v] M fun r => ∃ a M', r = (.tuple ⟨[.agg ⟨[.int .i64 w, .int .i64 h, .slice (some a) (w * h) (w * h)]⟩, .int .i64 0]⟩, M') ∧ Pre M M' ∧ Buf M M' a ((List.replicate (w * h) v).map (Value.int .u8)) := by
  refine Ac.mono (new_ok lo w h v M hlo) ?_
  rintro ⟨r, M'⟩ ⟨hp, h2⟩
  rw [if_pos (by omega), ← Int.natCast_mul] at h2
  simp only [Int.toNat_natCast] at h2
  obtain ⟨a, rfl, hb⟩ := h2
  exact ⟨a, M', rfl, hp, hb⟩
theorem frame_ok (lo : Nat) (w h : Nat) (v : Int) (M : Mem) (hlo : lo ≤ M.length) (hs : sideP w ∧ sideP h) :
    Ac P T lo F.plane_Frame [.int .i64 w, .int .i64 h, .int .u8 v] M fun r => ∃ a0 a1 a2 M', r = (.tuple ⟨[.agg ⟨[.int .i64 w, .int .i64 h, .slice (some a0) (w * h) (w * h), .int .i64 (w / 2 : Nat), .int .i64 (h / 2 : Nat), .slice (some a1) ((w / 2) * (h / 2)) ((w / 2) * (h / 2)), .int .i64 (w / 2 : Nat), .int .i64 (h / 2 : Nat), .slice (some a2) ((w / 2) * (h / 2)) ((w / 2) * (h / 2))]⟩, .int .i64 0]⟩, M') ∧ Pre M M' ∧
      Buf M M' a0 ((List.replicate (w * h) v).map (Value.int .u8)) ∧ Buf M M' a1 ((List.replicate ((w / 2) * (h / 2)) v).map (Value.int .u8)) ∧ Buf M M' a2 ((List.replicate ((w / 2) * (h / 2)) v).map (Value.int .u8)) ∧ a0.block ≠ a1.block ∧ a0.block ≠ a2.block ∧ a1.block ≠ a2.block := by
  have hs' := hs
  unfold sideP at hs'
  refine Ac.of (Evp.of_eq (fun k => plane_Frame.entry k ..) ?_)
  refine Evp.ob (sides_ok ..) ?_
  rintro _ rfl
  simp only [ret_int, ret_bool, ret_flt, ret_slc, ret_str, ret_ptr, ret_agg, ret_tup, ob_some, bb_true, bb_false, List.getElem?_cons_zero, List.getElem?_cons_succ, List.length_cons, List.length_nil, Nat.reduceAdd, Nat.reduceLT]
  refine Evp.ff (by rw [decide_eq_true hs]; rfl) ?_
  refine Evp.ret ?_
  refine Run.cut (Evp.of_eq (fun k => plane_Frame.p244 k ..) ?_)
  refine Evp.tt rfl ?_
  refine Evp.ob (new_nat lo w h v M hlo (by omega) (by omega)) ?_
  rintro _ ⟨a0, M1, rfl, p1, b0⟩
  simp only [ret_int, ret_bool, ret_flt, ret_slc, ret_str, ret_ptr, ret_agg, ret_tup, ob_some, bb_true, bb_false, List.getElem?_cons_zero, List.getElem?_cons_succ, List.length_cons, List.length_nil, Nat.reduceAdd, Nat.reduceLT]
  refine Evp.ff rfl (Evp.pos (by decide) (Evp.pos (Nat.le_of_ble_eq_true rfl) (Evp.tt rfl ?_)))
  have t1 : Int.tdiv ((w : Nat) : Int) 2 = ((w / 2 : Nat) : Int) := rfl
  have t2 : Int.tdiv ((h : Nat) : Int) 2 = ((h / 2 : Nat) : Int) := rfl
  rw [t1, t2, w64 (x := ((w / 2 : Nat) : Int)) (by omega), w64 (x := ((h / 2 : Nat) : Int)) (by omega)]
  refine Evp.ret ?_
  refine Run.cut (Evp.of_eq (fun k => plane_Frame.p1959 k ..) ?_)
  rw [show IntKind.i64.wrap (0 + 1) = 1 from by decide]
  refine Evp.ret ?_
  have l1 := p1.len
  refine Run.cut (Evp.of_eq (fun k => plane_Frame.p244 k ..) ?_)
  refine Evp.tt rfl ?_
  refine Evp.ob (new_nat lo (w / 2) (h / 2) v M1 (by omega) (by omega) (by omega)) ?_
  rintro _ ⟨a1, M2, rfl, p2, b1⟩
  simp only [ret_int, ret_bool, ret_flt, ret_slc, ret_str, ret_ptr, ret_agg, ret_tup, ob_some, bb_true, bb_false, List.getElem?_cons_zero, List.getElem?_cons_succ, List.length_cons, List.length_nil, Nat.reduceAdd, Nat.reduceLT]
  refine Evp.ff rfl (Evp.pos (by decide) (Evp.pos (Nat.le_of_ble_eq_true rfl) (Evp.ff rfl ?_)))
  refine Evp.ret ?_
  refine Run.cut (Evp.of_eq (fun k => plane_Frame.p1959 k ..) ?_)
  rw [show IntKind.i64.wrap (1 + 1) = 2 from by decide]
  refine Evp.ret ?_
  have l2 := p2.len
  refine Run.cut (Evp.of_eq (fun k => plane_Frame.p244 k ..) ?_)
  refine Evp.tt rfl ?_
  refine Evp.ob (new_nat lo (w / 2) (h / 2) v M2 (by omega) (by omega) (by omega)) ?_
  rintro _ ⟨a2, M3, rfl, p3, b2⟩
  simp only [ret_int, ret_bool, ret_flt, ret_slc, ret_str, ret_ptr, ret_agg, ret_tup, ob_some, bb_true, bb_false, List.getElem?_cons_zero, List.getElem?_cons_succ, List.length_cons, List.length_nil, Nat.reduceAdd, Nat.reduceLT]
  refine Evp.ff rfl (Evp.pos (by decide) (Evp.pos (Nat.le_of_ble_eq_true rfl) (Evp.ff rfl ?_)))
  refine Evp.ret ?_
  refine Run.cut (Evp.of_eq (fun k => plane_Frame.p1959 k ..) ?_)
  rw [show IntKind.i64.wrap (2 + 1) = 3 from by decide]
  refine Evp.ret ?_
  refine Run.cut (Evp.of_eq (fun k => plane_Frame.p244 k ..) ?_)
  refine Evp.ff rfl ?_
  refine Evp.some rfl (Evp.some rfl (Evp.some rfl (Evp.some rfl (Evp.some rfl (Evp.some rfl (Evp.some rfl (Evp.some rfl (Evp.some rfl ?_))))))))
  have i0 := b0.in_
  have i1 := b1.in_
  have n1 := b1.new
  have n2 := b2.new
  exact Evp.ret (Run.ret ⟨a0, a1, a2, M3, rfl, (p1.trans p2).trans p3, b0.pre (p2.trans p3), (b1.floor l1).pre p3, b2.floor (by omega), by omega, by omega, by omega⟩)
theorem directions_ok (lo : Nat) (A : Option Addr) (c n : Nat) (b : List Int) (d t p : Int) (M : Mem) (hlo : lo ≤ M.length) (hx : RdI M .u8 A b) (bb : Bytes b) (hbn : b.length = n) (hn : n ≤ 1000000) : Ac P T lo F.zoetropelaw23_CdefDirections [.slice A n c, .agg ⟨[.int .i64 d, .int .i64 t, .int .i64 p]⟩] M fun r => ∃ M', r = (.bool true, M') ∧ Pre M M' := by
  subst hbn
  refine Ac.of (Evp.of_eq (fun k => zoetropelaw23_CdefDirections.entry k ..) ?_)
  refine Evp.ob (copyBytes_ok _ A c b M hx (by omega) (by first | exact hlo | exact Nat.le_refl _)) ?_
  rintro _ ⟨B, c', M1, rfl, p1, _, k1⟩
  have rB : RdI M1 .u8 B b := k1.own.rd
  simp only [ret_int, ret_bool, ret_flt, ret_slc, ret_str, ret_ptr, ret_agg, ret_tup, ob_some, bb_true, bb_false, List.getElem?_cons_zero, List.getElem?_cons_succ, List.length_cons, List.length_nil, Nat.reduceAdd, Nat.reduceLT]
  obtain ⟨u, v, w, e1, e2⟩ : ∃ u v w : Int, (∀ r : Value × Mem, DirR b M1 r → r = (.tuple ⟨[.int .i64 u, .int .i64 v, .int .i64 w]⟩, M1)) ∧ (if b.length = 64 then Value.tuple ⟨[.int .i64 (bestD b 8 : Nat), .int .i64 (strD b), .int .i64 0]⟩ else .tuple ⟨[.int .i64 0, .int .i64 0, .int .i64 2]⟩) = .tuple ⟨[.int .i64 u, .int .i64 v, .int .i64 w]⟩ := by
    by_cases hl : b.length = 64
    · exact ⟨(bestD b 8 : Nat), strD b, 0, fun r h => by unfold DirR at h; rw [h, if_pos hl], by rw [if_pos hl]⟩
    · exact ⟨0, 0, 2, fun r h => by unfold DirR at h; rw [h, if_neg hl], by rw [if_neg hl]⟩
  have l1 := Nat.le_trans hlo p1.len
  refine Evp.ob (direction_ok _ B c' b M1 rB bb) ?_
  intro r hr
  obtain rfl := e1 r hr
  simp only [ret_int, ret_bool, ret_flt, ret_slc, ret_str, ret_ptr, ret_agg, ret_tup, ob_some, bb_true, bb_false, List.getElem?_cons_zero, List.getElem?_cons_succ, List.length_cons, List.length_nil, Nat.reduceAdd, Nat.reduceLT]
  refine Evp.ob (rdirection_ok _ A c b M1 (by first | exact l1 | exact p1.len) (hx.pre p1) bb) ?_
  rw [e2]
  rintro _ ⟨M2, p2, rfl⟩
  simp only [ret_int, ret_bool, ret_flt, ret_slc, ret_str, ret_ptr, ret_agg, ret_tup, ob_some, bb_true, bb_false, List.getElem?_cons_zero, List.getElem?_cons_succ, List.length_cons, List.length_nil, Nat.reduceAdd, Nat.reduceLT]
  refine Evp.eqb (fun _ => ?_) fun g => absurd rfl g
  refine Evp.eqb (fun _ => ?_) fun g => absurd rfl g
  refine Evp.eqb (fun _ => ?_) fun g => absurd rfl g
  refine Evp.ob (eqBytes_ok _ B A c' c b b M2 (rB.pre p2) (hx.pre (p1.trans p2)) (by omega)) ?_
  rintro _ rfl
  simp only [ret_int, ret_bool, ret_flt, ret_slc, ret_str, ret_ptr, ret_agg, ret_tup, ob_some, bb_true, bb_false, List.getElem?_cons_zero, List.getElem?_cons_succ, List.length_cons, List.length_nil, Nat.reduceAdd, Nat.reduceLT]
  refine Evp.tt (by simp) ?_
  refine Evp.ob (limit_ok _ d t p M2) ?_
  rintro _ rfl
  simp only [ret_int, ret_bool, ret_flt, ret_slc, ret_str, ret_ptr, ret_agg, ret_tup, ob_some, bb_true, bb_false, List.getElem?_cons_zero, List.getElem?_cons_succ, List.length_cons, List.length_nil, Nat.reduceAdd, Nat.reduceLT]
  refine Evp.ob (rlimit_ok _ d t p M2) ?_
  rintro _ rfl
  simp only [ret_int, ret_bool, ret_flt, ret_slc, ret_str, ret_ptr, ret_agg, ret_tup, ob_some, bb_true, bb_false, List.getElem?_cons_zero, List.getElem?_cons_succ, List.length_cons, List.length_nil, Nat.reduceAdd, Nat.reduceLT]
  refine Evp.eqb (fun _ => ?_) fun g => absurd rfl g
  refine Evp.ob (awake_ok _ M2 (by first | exact Nat.le_trans l1 p2.len | exact (p1.trans p2).len | exact Nat.le_refl _)) ?_
  rintro _ ⟨M3, rfl, p3⟩
  exact Evp.ret (Run.ret ⟨M3, rfl, (p1.trans p2).trans p3⟩)
theorem limits_ok (lo : Nat) (d t p : Int) (M : Mem) (hlo : lo ≤ M.length) : Ac P T lo F.zoetropelaw23_CdefLimits [.int .i64 d, .int .i64 t, .int .i64 p] M fun r => ∃ M', r = (.bool true, M') ∧ Pre M M' := by
  refine Ac.of (Evp.of_eq (fun k => zoetropelaw23_CdefLimits.entry k ..) ?_)
  refine Evp.ob (awake_ok _ M (by first | exact hlo | exact Nat.le_refl _)) ?_
  rintro _ ⟨M1, rfl, p1⟩
  simp only [ret_int, ret_bool, ret_flt, ret_slc, ret_str, ret_ptr, ret_agg, ret_tup, ob_some, bb_true, bb_false, List.getElem?_cons_zero, List.getElem?_cons_succ, List.length_cons, List.length_nil, Nat.reduceAdd, Nat.reduceLT]
  refine Evp.ff rfl ?_
  refine Evp.ob (bring_ok _ _ _ _ (by decide)) ?_
  rintro _ rfl
  simp only [ret_int, ret_bool, ret_flt, ret_slc, ret_str, ret_ptr, ret_agg, ret_tup, ob_some, bb_true, bb_false, List.getElem?_cons_zero, List.getElem?_cons_succ, List.length_cons, List.length_nil, Nat.reduceAdd, Nat.reduceLT]
  have hb := bringS_lt (i := d) (n := 1048576) (by decide)
  generalize bringS d 1048576 = x at *
  obtain ⟨l1, l2, l3, l4, l5, l6⟩ := lim_neg (d := x) (t := t) (p := p) hb
  rw [w64 (x := 0 - x) (by omega), Int.zero_sub]
  refine Evp.ob (limit_ok _ x t p M1) ?_
  rintro _ rfl
  simp only [ret_int, ret_bool, ret_flt, ret_slc, ret_str, ret_ptr, ret_agg, ret_tup, ob_some, bb_true, bb_false, List.getElem?_cons_zero, List.getElem?_cons_succ, List.length_cons, List.length_nil, Nat.reduceAdd, Nat.reduceLT]
  refine Evp.ob (limit_ok _ (-x) t p M1) ?_
  rintro _ rfl
  simp only [ret_int, ret_bool, ret_flt, ret_slc, ret_str, ret_ptr, ret_agg, ret_tup, ob_some, bb_true, bb_false, List.getElem?_cons_zero, List.getElem?_cons_succ, List.length_cons, List.length_nil, Nat.reduceAdd, Nat.reduceLT]
  have e : IntKind.i64.wrap (0 - limS (-x) t p) = limS x t p := by
    rw [w64 (by omega)]; omega
  rw [e]
  refine Evp.neb (fun g => absurd rfl g) fun _ => ?_
  refine Evp.dec (fun g => absurd g (by omega)) fun _ => Evp.dec (fun g => absurd g (by omega)) fun _ => Evp.dec (fun g => absurd g (by omega)) fun _ => ?_
  have last : Evp (fun k => bb (decide (t > 0)) (some (.ret (.bool true) M1)) (some (.ret (.bool (limS x t p == 0)) M1))) fun out => Run P T lo F.zoetropelaw23_CdefLimits out fun r => ∃ M', r = (.bool true, M') ∧ Pre M M' :=
    Evp.dec (fun _ => Evp.ret (Run.ret ⟨M1, rfl, p1⟩)) fun g => Evp.ret (Run.ret ⟨M1, by rw [l5 (by omega)]; rfl, p1⟩)
  refine Evp.dec (fun h1 => Evp.dec (fun h2 => Evp.dec (fun h3 => Evp.dec (fun h4 => Evp.ret (Run.ret ⟨M1, ?_, p1⟩)) fun _ => last) fun _ => last) fun _ => last) fun _ => last
  rw [l6 (by omega) (by omega) (by omega) (by omega)]; rfl
/-! ### Heads -/
def HdAt (cs : List Value) (o : Nat) (hd : Hd) : Prop := (cs.drop o).take 30 = hd.cells
theorem HdAt.get {cs : List Value} {o : Nat} {hd : Hd} (h : HdAt cs o hd) (j : Nat) (hj : j < 30) : cs[o + j]? = hd.cells[j]? := by
  rw [← h, List.getElem?_take, if_pos hj, List.getElem?_drop]
section
variable {β : Type} {Q : β → Prop} {N : Mem} {a : Addr} {o : Nat} {hd : Hd}
theorem hd_ld (h : ∀ j, j < 30 → N.ld (plus a (o + j)) = hd.cells[j]?) {f : Nat → Bool → Int → Bool → Bool → Int → Int → Int → Int → Int → Int → Int → Int → Int → Int → Int → Int → Int → Bool → Int → Int → Int → Int → Int → Bool → Int → Int → Slc → Bool → Bool → Bool → Option β} (hf : Evp (fun kk => f kk hd.h0 hd.h1 hd.h2 hd.h3 hd.h4 hd.h5 hd.h6 hd.h7 hd.h8 hd.h9 hd.h10 hd.h11 hd.h12 hd.h13 hd.h14 hd.h15 hd.h16 hd.h17 hd.h18 hd.h19 hd.h20 hd.h21 hd.h22 hd.cdef hd.damp hd.h25 ⟨hd.A, hd.n, hd.c⟩ hd.h27 hd.h28 hd.h29) Q) :
    Evp (fun kk => ob ((N.ld (plus a o)).bind Value.bool?) fun y0 => ob ((N.ld (plus (plus a o) 1)).bind (Value.int? .i64)) fun y1 => ob ((N.ld (plus (plus a o) 2)).bind Value.bool?) fun y2 => ob ((N.ld (plus (plus a o) 3)).bind Value.bool?) fun y3 => ob ((N.ld (plus (plus a o) 4)).bind (Value.int? .i64)) fun y4 => ob ((N.ld (plus (plus a o) 5)).bind (Value.int? .i64)) fun y5 => ob ((N.ld (plus (plus a o) 6)).bind (Value.int? .i64)) fun y6 => ob ((N.ld (plus (plus a o) 7)).bind (Value.int? .i64)) fun y7 => ob ((N.ld (plus (plus a o) 8)).bind (Value.int? .i64)) fun y8 => ob ((N.ld (plus (plus a o) 9)).bind (Value.int? .i64)) fun y9 => ob ((N.ld (plus (plus a o) 10)).bind (Value.int? .i64)) fun y10 => ob ((N.ld (plus (plus a o) 11)).bind (Value.int? .i64)) fun y11 => ob ((N.ld (plus (plus a o) 12)).bind (Value.int? .i64)) fun y12 => ob ((N.ld (plus (plus a o) 13)).bind (Value.int? .i64)) fun y13 => ob ((N.ld (plus (plus a o) 14)).bind (Value.int? .i64)) fun y14 => ob ((N.ld (plus (plus a o) 15)).bind (Value.int? .i64)) fun y15 => ob ((N.ld (plus (plus a o) 16)).bind (Value.int? .i64)) fun y16 => ob ((N.ld (plus (plus a o) 17)).bind Value.bool?) fun y17 => ob ((N.ld (plus (plus a o) 18)).bind (Value.int? .i64)) fun y18 => ob ((N.ld (plus (plus a o) 19)).bind (Value.int? .i64)) fun y19 => ob ((N.ld (plus (plus a o) 20)).bind (Value.int? .i64)) fun y20 => ob ((N.ld (plus (plus a o) 21)).bind (Value.int? .i64)) fun y21 => ob ((N.ld (plus (plus a o) 22)).bind (Value.int? .i64)) fun y22 => ob ((N.ld (plus (plus a o) 23)).bind Value.bool?) fun y23 => ob ((N.ld (plus (plus a o) 24)).bind (Value.int? .i64)) fun y24 => ob ((N.ld (plus (plus a o) 25)).bind (Value.int? .i64)) fun y25 => ob ((N.ld (plus (plus a o) 26)).bind Value.slc?) fun y26 => ob ((N.ld (plus (plus a o) 27)).bind Value.bool?) fun y27 => ob ((N.ld (plus (plus a o) 28)).bind Value.bool?) fun y28 => ob ((N.ld (plus (plus a o) 29)).bind Value.bool?) fun y29 => f kk y0 y1 y2 y3 y4 y5 y6 y7 y8 y9 y10 y11 y12 y13 y14 y15 y16 y17 y18 y19 y20 y21 y22 y23 y24 y25 y26 y27 y28 y29) Q := by
  have h0 : N.ld (plus a o) = some (.bool hd.h0) := h 0 (by decide)
  have h1 : N.ld (plus (plus a o) 1) = some (.int .i64 hd.h1) := by rw [plus_plus]; exact h 1 (by decide)
  have h2 : N.ld (plus (plus a o) 2) = some (.bool hd.h2) := by rw [plus_plus]; exact h 2 (by decide)
  have h3 : N.ld (plus (plus a o) 3) = some (.bool hd.h3) := by rw [plus_plus]; exact h 3 (by decide)
  have h4 : N.ld (plus (plus a o) 4) = some (.int .i64 hd.h4) := by rw [plus_plus]; exact h 4 (by decide)
  have h5 : N.ld (plus (plus a o) 5) = some (.int .i64 hd.h5) := by rw [plus_plus]; exact h 5 (by decide)
  have h6 : N.ld (plus (plus a o) 6) = some (.int .i64 hd.h6) := by rw [plus_plus]; exact h 6 (by decide)
  have h7 : N.ld (plus (plus a o) 7) = some (.int .i64 hd.h7) := by rw [plus_plus]; exact h 7 (by decide)
  have h8 : N.ld (plus (plus a o) 8) = some (.int .i64 hd.h8) := by rw [plus_plus]; exact h 8 (by decide)
  have h9 : N.ld (plus (plus a o) 9) = some (.int .i64 hd.h9) := by rw [plus_plus]; exact h 9 (by decide)
  have h10 : N.ld (plus (plus a o) 10) = some (.int .i64 hd.h10) := by rw [plus_plus]; exact h 10 (by decide)
  have h11 : N.ld (plus (plus a o) 11) = some (.int .i64 hd.h11) := by rw [plus_plus]; exact h 11 (by decide)
  have h12 : N.ld (plus (plus a o) 12) = some (.int .i64 hd.h12) := by rw [plus_plus]; exact h 12 (by decide)
  have h13 : N.ld (plus (plus a o) 13) = some (.int .i64 hd.h13) := by rw [plus_plus]; exact h 13 (by decide)
  have h14 : N.ld (plus (plus a o) 14) = some (.int .i64 hd.h14) := by rw [plus_plus]; exact h 14 (by decide)
  have h15 : N.ld (plus (plus a o) 15) = some (.int .i64 hd.h15) := by rw [plus_plus]; exact h 15 (by decide)
  have h16 : N.ld (plus (plus a o) 16) = some (.int .i64 hd.h16) := by rw [plus_plus]; exact h 16 (by decide)
  have h17 : N.ld (plus (plus a o) 17) = some (.bool hd.h17) := by rw [plus_plus]; exact h 17 (by decide)
  have h18 : N.ld (plus (plus a o) 18) = some (.int .i64 hd.h18) := by rw [plus_plus]; exact h 18 (by decide)
  have h19 : N.ld (plus (plus a o) 19) = some (.int .i64 hd.h19) := by rw [plus_plus]; exact h 19 (by decide)
  have h20 : N.ld (plus (plus a o) 20) = some (.int .i64 hd.h20) := by rw [plus_plus]; exact h 20 (by decide)
  have h21 : N.ld (plus (plus a o) 21) = some (.int .i64 hd.h21) := by rw [plus_plus]; exact h 21 (by decide)
  have h22 : N.ld (plus (plus a o) 22) = some (.int .i64 hd.h22) := by rw [plus_plus]; exact h 22 (by decide)
  have h23 : N.ld (plus (plus a o) 23) = some (.bool hd.cdef) := by rw [plus_plus]; exact h 23 (by decide)
  have h24 : N.ld (plus (plus a o) 24) = some (.int .i64 hd.damp) := by rw [plus_plus]; exact h 24 (by decide)
  have h25 : N.ld (plus (plus a o) 25) = some (.int .i64 hd.h25) := by rw [plus_plus]; exact h 25 (by decide)
  have h26 : N.ld (plus (plus a o) 26) = some (.slice hd.A hd.n hd.c) := by rw [plus_plus]; exact h 26 (by decide)
  have h27 : N.ld (plus (plus a o) 27) = some (.bool hd.h27) := by rw [plus_plus]; exact h 27 (by decide)
  have h28 : N.ld (plus (plus a o) 28) = some (.bool hd.h28) := by rw [plus_plus]; exact h 28 (by decide)
  have h29 : N.ld (plus (plus a o) 29) = some (.bool hd.h29) := by rw [plus_plus]; exact h 29 (by decide)
  refine Evp.of_eq (fun kk => ?_) hf
  rw [h0, h1, h2, h3, h4, h5, h6, h7, h8, h9, h10, h11, h12, h13, h14, h15, h16, h17, h18, h19, h20, h21, h22, h23, h24, h25, h26, h27, h28, h29]
  simp only [ret_int, ret_bool, ret_flt, ret_slc, ret_str, ret_ptr, ret_agg, ret_tup, ob_some, bb_true, bb_false, List.getElem?_cons_zero, List.getElem?_cons_succ, List.length_cons, List.length_nil, Nat.reduceAdd, Nat.reduceLT]
theorem hd_ldg {L : Nat} (hL : a.block < L) (h : ∀ j, j < 30 → N.ld (plus a (o + j)) = hd.cells[j]?) {f : Nat → Bool → Int → Bool → Bool → Int → Int → Int → Int → Int → Int → Int → Int → Int → Int → Int → Int → Int → Bool → Int → Int → Int → Int → Int → Bool → Int → Int → Slc → Bool → Bool → Bool → Option β} (hf : Evp (fun kk => f kk hd.h0 hd.h1 hd.h2 hd.h3 hd.h4 hd.h5 hd.h6 hd.h7 hd.h8 hd.h9 hd.h10 hd.h11 hd.h12 hd.h13 hd.h14 hd.h15 hd.h16 hd.h17 hd.h18 hd.h19 hd.h20 hd.h21 hd.h22 hd.cdef hd.damp hd.h25 ⟨hd.A, hd.n, hd.c⟩ hd.h27 hd.h28 hd.h29) Q) :
    Evp (fun kk => ob ((if (plus a o).block < L then N.ld (plus a o) else none).bind Value.bool?) fun y0 => ob ((if (plus a o).block < L then N.ld (plus (plus a o) 1) else none).bind (Value.int? .i64)) fun y1 => ob ((if (plus a o).block < L then N.ld (plus (plus a o) 2) else none).bind Value.bool?) fun y2 => ob ((if (plus a o).block < L then N.ld (plus (plus a o) 3) else none).bind Value.bool?) fun y3 => ob ((if (plus a o).block < L then N.ld (plus (plus a o) 4) else none).bind (Value.int? .i64)) fun y4 => ob ((if (plus a o).block < L then N.ld (plus (plus a o) 5) else none).bind (Value.int? .i64)) fun y5 => ob ((if (plus a o).block < L then N.ld (plus (plus a o) 6) else none).bind (Value.int? .i64)) fun y6 => ob ((if (plus a o).block < L then N.ld (plus (plus a o) 7) else none).bind (Value.int? .i64)) fun y7 => ob ((if (plus a o).block < L then N.ld (plus (plus a o) 8) else none).bind (Value.int? .i64)) fun y8 => ob ((if (plus a o).block < L then N.ld (plus (plus a o) 9) else none).bind (Value.int? .i64)) fun y9 => ob ((if (plus a o).block < L then N.ld (plus (plus a o) 10) else none).bind (Value.int? .i64)) fun y10 => ob ((if (plus a o).block < L then N.ld (plus (plus a o) 11) else none).bind (Value.int? .i64)) fun y11 => ob ((if (plus a o).block < L then N.ld (plus (plus a o) 12) else none).bind (Value.int? .i64)) fun y12 => ob ((if (plus a o).block < L then N.ld (plus (plus a o) 13) else none).bind (Value.int? .i64)) fun y13 => ob ((if (plus a o).block < L then N.ld (plus (plus a o) 14) else none).bind (Value.int? .i64)) fun y14 => ob ((if (plus a o).block < L then N.ld (plus (plus a o) 15) else none).bind (Value.int? .i64)) fun y15 => ob ((if (plus a o).block < L then N.ld (plus (plus a o) 16) else none).bind (Value.int? .i64)) fun y16 => ob ((if (plus a o).block < L then N.ld (plus (plus a o) 17) else none).bind Value.bool?) fun y17 => ob ((if (plus a o).block < L then N.ld (plus (plus a o) 18) else none).bind (Value.int? .i64)) fun y18 => ob ((if (plus a o).block < L then N.ld (plus (plus a o) 19) else none).bind (Value.int? .i64)) fun y19 => ob ((if (plus a o).block < L then N.ld (plus (plus a o) 20) else none).bind (Value.int? .i64)) fun y20 => ob ((if (plus a o).block < L then N.ld (plus (plus a o) 21) else none).bind (Value.int? .i64)) fun y21 => ob ((if (plus a o).block < L then N.ld (plus (plus a o) 22) else none).bind (Value.int? .i64)) fun y22 => ob ((if (plus a o).block < L then N.ld (plus (plus a o) 23) else none).bind Value.bool?) fun y23 => ob ((if (plus a o).block < L then N.ld (plus (plus a o) 24) else none).bind (Value.int? .i64)) fun y24 => ob ((if (plus a o).block < L then N.ld (plus (plus a o) 25) else none).bind (Value.int? .i64)) fun y25 => ob ((if (plus a o).block < L then N.ld (plus (plus a o) 26) else none).bind Value.slc?) fun y26 => ob ((if (plus a o).block < L then N.ld (plus (plus a o) 27) else none).bind Value.bool?) fun y27 => ob ((if (plus a o).block < L then N.ld (plus (plus a o) 28) else none).bind Value.bool?) fun y28 => ob ((if (plus a o).block < L then N.ld (plus (plus a o) 29) else none).bind Value.bool?) fun y29 => f kk y0 y1 y2 y3 y4 y5 y6 y7 y8 y9 y10 y11 y12 y13 y14 y15 y16 y17 y18 y19 y20 y21 y22 y23 y24 y25 y26 y27 y28 y29) Q := by
  simp only [plus_block, if_pos hL]
  exact hd_ld h hf
end
/-! ### Places -/
structure Slots (M N : Mem) (k n : Nat) : Prop where
  pre : Pre M N
  free : ∀ j, k ≤ j → j < n → N[M.length + j]? = some ⟨.op 0, []⟩
theorem Slots.init {M : Mem} {n : Nat} : Slots M (M ++ List.replicate n ⟨.op 0, []⟩) 0 n :=
  ⟨Pre.app _ _, fun j _ hj => by rw [List.getElem?_append_right (by omega), Nat.add_sub_cancel_left, List.getElem?_replicate, if_pos hj]⟩
theorem Slots.go {M N N' : Mem} {k n : Nat} (s : Slots M N k n) (p : Pre N N') : Slots M N' k n := ⟨s.pre.trans p, fun j h1 h2 => p _ _ (s.free j h1 h2)⟩
theorem Slots.fill {M N : Mem} {k n lo i z : Nat} {cs : List Value} (s : Slots M N k n) (hk : k < n) (hi : i = M.length + k) (hlo : lo ≤ M.length) (hz : z ≠ 0) (hne : cs ≠ []) :
    ∃ N', N.fill lo i z cs = some (⟨i, 0, some cs.length⟩, N') ∧ Slots M N' (k + 1) n ∧ N'[i]? = some ⟨.op z, cs⟩ ∧ ∀ j, j < i → N'[j]? = N[j]? := by
  have h := s.free k (Nat.le_refl _) hk
  rw [← hi] at h
  have e : N.fill lo i z cs = some (⟨i, 0, some cs.length⟩, N.set i ⟨.op z, cs⟩) := by
    unfold Mem.fill
    simp only [h]
    rw [if_pos ⟨by omega, hz⟩]
    cases cs with
    | nil => exact absurd rfl hne
    | cons c cs => rfl
  refine ⟨_, e, ⟨s.pre.set (by omega) _, fun j h1 h2 => ?_⟩, set_self (lt_of_get h), fun j hj => by rw [List.getElem?_set_ne (by omega)]⟩
  rw [List.getElem?_set_ne (by omega)]
  exact s.free j (by omega) h2
theorem op_rd {M : Mem} {b z n w : Nat} {cs : List Value} (h : M[b]? = some ⟨.op z, cs⟩) (hl : cs.length = n * w) : Rd M (some ⟨b, 0, some cs.length⟩) n w cs :=
  Buf.rd (M0 := []) ⟨.op z, rfl, Nat.zero_le _, h, .inr ⟨z, rfl, rfl⟩⟩ hl
/-! ### Frames -/
structure Fq where
  (w0 h0 w1 h1 w2 h2 : Int) (A0 A1 A2 : Option Addr) (n0 c0 n1 c1 n2 c2 : Nat) (xs ys zs : List Int)
structure PlOk (M : Mem) (A : Option Addr) (n c : Nat) (xs : List Int) : Prop where
  r : RdI M .u8 A xs
  b : Bytes xs
  l : xs.length = n
  k : n ≤ c
  m : n ≤ 1000000
theorem PlOk.pre {M M' : Mem} {A : Option Addr} {n c : Nat} {xs : List Int} (h : PlOk M A n c xs) (p : Pre M M') : PlOk M' A n c xs := ⟨h.r.pre p, h.b, h.l, h.k, h.m⟩
structure Fq.Ok (q : Fq) (M : Mem) : Prop where
  p0 : PlOk M q.A0 q.n0 q.c0 q.xs
  p1 : PlOk M q.A1 q.n1 q.c1 q.ys
  p2 : PlOk M q.A2 q.n2 q.c2 q.zs
theorem Fq.Ok.pre {q : Fq} {M M' : Mem} (h : q.Ok M) (p : Pre M M') : q.Ok M' := ⟨h.p0.pre p, h.p1.pre p, h.p2.pre p⟩
theorem frames_names (lo : Nat) (w0 h0 w1 h1 w2 h2 : Int) (A0 A1 A2 : Option Addr) (n0 c0 n1 c1 n2 c2 : Nat) (xs ys zs : List Int) (Q V : Option Addr) (nq qc nv vc : Nat) (qs : List Bool) (ws : List Int) (hd : Hd) (L : List Int) (M : Mem) (hlo : lo ≤ M.length)
    (hq : (Fq.mk w0 h0 w1 h1 w2 h2 A0 A1 A2 n0 c0 n1 c1 n2 c2 xs ys zs).Ok M) (hQ : RdB M Q qs) (hqn : qs.length = nq) (lq : nq ≤ 1000000) (hV : RdI M .i64 V ws) (hvn : ws.length = nv) (lv : nv ≤ 1000000) (hL : Rd M hd.A hd.n 4 (L.map (Value.int .i64))) :
    Ac P T lo F.zoetropelaw23_CdefFrames [.agg ⟨[.int .i64 w0, .int .i64 h0, .slice A0 n0 c0, .int .i64 w1, .int .i64 h1, .slice A1 n1 c1, .int .i64 w2, .int .i64 h2, .slice A2 n2 c2]⟩, .agg ⟨[.slice Q nq qc, .slice V nv vc]⟩, .agg ⟨hd.cells⟩] M fun r => ∃ M', r = (.bool true, M') ∧ Pre M M' := by
  obtain ⟨⟨rx, bx, lx, kx, mx⟩, ⟨ry, by', ly, ky, my⟩, ⟨rz, bz, lz, kz, mz⟩⟩ := hq
  simp only at *
  subst lx; subst ly; subst lz; subst hqn; subst hvn
  refine frames_ok lo ⟨⟨w0, h0, A0, c0, xs⟩, ⟨w1, h1, A1, c1, ys⟩, ⟨w2, h2, A2, c2, zs⟩⟩ Q V qc vc qs ws hd L M hlo ⟨fun n hn => ?_, fun n hn => ?_, fun n hn => ?_⟩ hQ hV (by omega) (by omega) hL fun n hn => ?_
  · rcases lt3 hn with rfl | rfl | rfl
    · exact rx
    · exact ry
    · exact rz
  · rcases lt3 hn with rfl | rfl | rfl
    · exact bx
    · exact by'
    · exact bz
  · rcases lt3 hn with rfl | rfl | rfl
    · exact kx
    · exact ky
    · exact kz
  · rcases lt3 hn with rfl | rfl | rfl
    · show xs.length ≤ _; omega
    · show ys.length ≤ _; omega
    · show zs.length ≤ _; omega
theorem blocks_names (lo : Nat) (A : Option Addr) (c n : Nat) (xs : List Int) (w h x y rw' rh dir pri sec p : Int) (M : Mem) (hlo : lo ≤ M.length) (hx : RdI M .u8 A xs) (bx : Bytes xs) (hl : xs.length = n) (hn : n ≤ 1000000) :
    Ac P T lo F.zoetropelaw23_CdefBlocks [.agg ⟨[.int .i64 w, .int .i64 h, .slice A n c]⟩, .agg ⟨[.int .i64 x, .int .i64 y, .int .i64 rw', .int .i64 rh]⟩, .agg ⟨[.int .i64 dir, .int .i64 pri, .int .i64 sec, .int .i64 p]⟩] M fun r => ∃ M', r = (.bool true, M') ∧ Pre M M' := by
  subst hl
  exact blocks_ok lo A c xs w h x y rw' rh dir pri sec p M hlo hx bx (by omega)
end Go.Zt
