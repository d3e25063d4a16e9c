/- Units that may be, as many as a plane has; what stays, what hangs on what (plain). -/
import Derived.Test.YtfghnhhhlckafaaFi
set_option linter.unusedVariables false
set_option linter.unusedSimpArgs false
set_option maxRecDepth 100000
namespace Go.Zt
theorem rd_src {M : Mem} {A : Option Addr} {k : IntKind} {l h c m : Nat} {xs : List Int} (hr : RdI M k A xs) (h1 : l ≤ h) (h2 : h ≤ xs.length) (hc : xs.length ≤ c) (hm : m = h - l) :
    Mem.src M (Zt.slAddr 1 A l c) m m = some (((xs.drop l).take m).map (Value.int k)) := by
  subst hm
  have := (hr.slAddr h1 h2 hc).src
  rwa [List.length_take, List.length_drop, Nat.min_eq_left (by omega)] at this
theorem slAddr_at {a : Addr} {l c : Nat} (h : l < c) : Zt.slAddr 1 (some a) l c = some (plus a l) := by
  unfold Zt.slAddr
  rw [if_neg (by omega)]; rfl
theorem andle {x : Int} : 0 ≤ andI .u64 x 4294967295 ∧ andI .u64 x 4294967295 ≤ 4294967295 := by
  unfold andI
  have h : (BitVec.ofInt IntKind.u64.bits x &&& BitVec.ofInt IntKind.u64.bits 4294967295).toNat ≤ 4294967295 := by
    rw [BitVec.toNat_and]
    exact Nat.le_trans Nat.and_le_right (by decide)
  rw [wu64 (by omega)]
  omega
theorem shr_small {x : Int} (h : 0 ≤ x ∧ x ≤ 4294967295) : shrI .u64 x 32 = 0 := by
  unfold shrI
  rw [show min 32 IntKind.u64.bits = 32 from rfl, Int.fdiv_eq_ediv_of_nonneg _ (by decide)]
  exact Int.ediv_eq_zero_of_lt h.1 (by omega)
theorem mul64_ok (lo : Nat) (n : Int) (M : Mem) (hn : 0 ≤ n ∧ n ≤ 2147483647) : Ac P T lo F.math_bits_Mul64 [.int .u64 1, .int .u64 n] M fun r => r = (.tuple ⟨[.int .u64 0, .int .u64 n]⟩, M) := by
  refine Ac.of (Evp.of_eq (fun k => math_bits_Mul64.entry k ..) ?_)
  refine Evp.ret (Run.ret ?_)
  have a1 := andle (x := n)
  have a2 : andI .u64 1 4294967295 = 1 := by decide
  have a3 : andI .u64 0 4294967295 = 0 := by decide
  have w0 : IntKind.u64.wrap 0 = 0 := by decide
  simp only [shr_small (x := 1) (by decide), shr_small (x := n) (by omega), a2, Int.zero_mul, Int.one_mul, Int.mul_zero, w0, Int.zero_add, Int.add_zero, wu64 (x := andI .u64 n 4294967295) (by omega), shr_small (x := andI .u64 n 4294967295) (by omega), a3, shr_small (x := 0) (by decide), wu64 (x := n) (by omega)]
theorem mul_ok (lo : Nat) (n : Int) (M : Mem) (hn : 0 ≤ n ∧ n ≤ 2147483647) : Ac P T lo F.math_bits_Mul [.int .u64 1, .int .u64 n] M fun r => r = (.tuple ⟨[.int .u64 0, .int .u64 n]⟩, M) := by
  refine Ac.of (Evp.of_eq (fun k => math_bits_Mul.entry k ..) ?_)
  refine Evp.ob (mul64_ok _ _ _ hn) ?_
  rintro _ rfl
  simp only [ret_int, ret_bool, ret_flt, ret_slc, ret_str, ret_ptr, ret_agg, ret_tup, ob_some, bb_true, bb_false, List.getElem?_cons_zero, List.getElem?_cons_succ, List.length_cons, List.length_nil, Nat.reduceAdd, Nat.reduceLT]
  exact Evp.ret (Run.ret rfl)
def fillR (n : Nat) (v : Int) (i : Nat) : List Int := List.replicate i v ++ List.replicate (n - i) 0
theorem fillR_len {n i : Nat} {v : Int} (h : i ≤ n) : (fillR n v i).length = n := by simp [fillR]; omega
theorem fillR_full (n : Nat) (v : Int) : fillR n v n = List.replicate n v := by simp [fillR]
theorem fillR_set {n i m : Nat} {v : Int} (h : i + m ≤ n) : setL ((fillR n v i).map (Value.int .u8)) i ((List.replicate m v).map (Value.int .u8)) = (fillR n v (i + m)).map (Value.int .u8) := by
  have e1 : (fillR n v i).map (Value.int .u8) = List.replicate i (.int .u8 v) ++ List.replicate m (.int .u8 0) ++ List.replicate (n - i - m) (.int .u8 0) := by
    simp [fillR]; omega
  have e2 : (fillR n v (i + m)).map (Value.int .u8) = List.replicate i (.int .u8 v) ++ List.replicate m (.int .u8 v) ++ List.replicate (n - i - m) (.int .u8 0) := by
    simp [fillR, Nat.sub_sub]
  have := setL_all (List.replicate i (Value.int .u8 v)) (List.replicate m (Value.int .u8 0)) (List.replicate m (Value.int .u8 v)) (List.replicate (n - i - m) (Value.int .u8 0)) (by simp)
  rw [List.length_replicate] at this
  rw [e1, e2, List.map_replicate, this]
theorem repeat_loop (lo : Nat) (M0 : Mem) (a : Addr) (n : Nat) (v : Int) (hn : n ≤ 2147483647) (hlo : lo ≤ M0.length) : ∀ (d i : Nat) (M : Mem), n - i = d → 1 ≤ i → i ≤ n → Pre M0 M → Buf M0 M a ((fillR n v i).map (Value.int .u8)) →
    Run P T lo F.slices_Repeat__uint8_uint8 (slices_Repeat__uint8_uint8.c1016 (some a) n n i M) fun r => ∃ M', r = (.slice (some a) n n, M') ∧ Pre M0 M' ∧ Buf M0 M' a ((List.replicate n v).map (Value.int .u8)) := by
  intro d
  induction d using Nat.strongRecOn with
  | ind d ih =>
    intro i M hd h1 hi hp hb
    refine Run.cut (Evp.of_eq (fun k => slices_Repeat__uint8_uint8.p1016 k ..) ?_)
    refine Evp.dec (fun hlt => ?_) fun hge => ?_
    · refine Evp.pos (by omega) (Evp.pos (by omega) ?_)
      simp only [Int.toNat_natCast, Nat.sub_zero]
      have hmin : Nat.min i (n - i) ≤ i ∧ Nat.min i (n - i) ≤ n - i ∧ 1 ≤ Nat.min i (n - i) := ⟨Nat.min_le_left _ _, Nat.min_le_right _ _, Nat.le_min.2 ⟨h1, by omega⟩⟩
      have hl := fillR_len (v := v) hi
      refine Evp.some (rd_src (h := Nat.min i (n - i)) hb.rdI (by omega) (by omega) (by omega) (by omega)) ?_
      refine Evp.neg (by omega) ?_
      refine Evp.some (slAddr_at (by omega)) ?_
      have e : ((fillR n v i).drop 0).take (Nat.min i (n - i)) = List.replicate (Nat.min i (n - i)) v := by
        unfold fillR
        rw [List.drop_zero, List.take_append_of_le_length (by rw [List.length_replicate]; omega), List.take_replicate, Nat.min_eq_left (a := Nat.min i (n - i)) (by omega)]
      rw [e]
      obtain ⟨M1, g1, g2, g3, g4, g5⟩ := hb.st (lo := lo) (i := i) (vs := (List.replicate (Nat.min i (n - i)) v).map (Value.int .u8)) hp hlo (by rw [List.length_map, List.length_map, hl, List.length_replicate]; omega)
      refine Evp.some g1 ?_
      rw [fillR_set (by omega)] at g2
      rw [w64 (by omega)]
      exact Evp.ret (ih (n - (i + Nat.min i (n - i))) (by omega) (i + Nat.min i (n - i)) M1 rfl (by omega) (by omega) g3 g2)
    · obtain rfl : i = n := by omega
      rw [fillR_full] at hb
      exact Evp.ret (Run.ret ⟨M, rfl, hp, hb⟩)
theorem repeat_ok (lo : Nat) (A : Option Addr) (c : Nat) (v : Int) (n : Int) (M : Mem) (hx : RdI M .u8 A [v]) (hn : 1 ≤ n ∧ n ≤ 2147483647) (hlo : lo ≤ M.length) :
    Ac P T lo F.slices_Repeat__uint8_uint8 [.slice A 1 c, .int .i64 n] M fun r => ∃ a M', r = (.slice (some a) n.toNat n.toNat, M') ∧ Pre M M' ∧ Buf M M' a ((List.replicate n.toNat v).map (Value.int .u8)) := by
  refine Ac.of (Evp.of_eq (fun k => slices_Repeat__uint8_uint8.entry k ..) ?_)
  refine Evp.dec (fun h => absurd h (by omega)) fun _ => ?_
  refine Evp.ret ?_
  refine Run.cut (Evp.of_eq (fun k => slices_Repeat__uint8_uint8.p7 k ..) ?_)
  rw [show IntKind.u64.wrap ((1 : Nat) : Int) = 1 from by decide, wu64 (x := n) (by omega)]
  refine Evp.ob (mul_ok _ _ _ (by omega)) ?_
  rintro _ rfl
  simp only [ret_int, ret_bool, ret_flt, ret_slc, ret_str, ret_ptr, ret_agg, ret_tup, ob_some, bb_true, bb_false, List.getElem?_cons_zero, List.getElem?_cons_succ, List.length_cons, List.length_nil, Nat.reduceAdd, Nat.reduceLT]
  refine Evp.dec (fun h => absurd h (by omega)) fun _ => ?_
  refine Evp.dec (fun h => absurd h (by omega)) fun _ => ?_
  refine Evp.ret ?_
  refine Run.cut (Evp.of_eq (fun k => slices_Repeat__uint8_uint8.p31 k ..) ?_)
  rw [w64 (x := n) (by omega)]
  refine Evp.pos ⟨by omega, by show n.toNat * 1 ≤ 140737488355328; omega⟩ ?_
  have hm : Nat.min 1 n.toNat = 1 := Nat.min_eq_left (by omega)
  rw [hm]
  have hz : zerosL [.int .u8 0] n.toNat = (fillR n.toNat v 0).map (Value.int .u8) := by rw [zerosL_one]; simp [fillR]
  rw [hz]
  refine Evp.some ((hx.pre (Pre.app _ _)).src) (Evp.neg (by omega) ?_)
  obtain ⟨M1, g1, g2, g3, g4, g5⟩ := (Buf.push (cs := (fillR n.toNat v 0).map (Value.int .u8)) (Pre.refl M)).st (lo := lo) (i := 0) (vs := [.int .u8 v]) (Pre.app _ _) hlo (by simp [fillR_len]; omega)
  refine Evp.some g1 ?_
  have := fillR_set (n := n.toNat) (i := 0) (m := 1) (v := v) (by omega)
  rw [show ((List.replicate 1 v).map (Value.int .u8)) = [.int .u8 v] from rfl] at this
  rw [this] at g2
  refine Evp.ret ((repeat_loop lo M _ n.toNat v (by omega) hlo _ (0 + 1) M1 rfl (by omega) (by omega) g3 g2).mono ?_)
  rintro r ⟨M', rfl, h1, h2⟩
  exact ⟨_, M', rfl, h1, h2⟩
theorem new_ok (lo : Nat) (w h v : Int) (M : Mem) (hlo : lo ≤ M.length) :
    Ac P T lo F.plane_New [.int .i64 w, .int .i64 h, .int .u8 v] M fun r => Pre M r.2 ∧ if 1 ≤ w ∧ w ≤ 512 ∧ 1 ≤ h ∧ h ≤ 512 then ∃ a, r.1 = .tuple ⟨[.agg ⟨[.int .i64 w, .int .i64 h, .slice (some a) (w * h).toNat (w * h).toNat]⟩, .int .i64 0]⟩ ∧ Buf M r.2 a ((List.replicate (w * h).toNat v).map (Value.int .u8))
      else r.1 = .tuple ⟨[.agg ⟨[.int .i64 0, .int .i64 0, .slice none 0 0]⟩, .int .i64 2]⟩ := by
  refine Ac.of (Evp.of_eq (fun k => plane_New.entry k ..) ?_)
  refine Evp.ob (sizes_ok ..) ?_
  rintro _ rfl
  simp only [ret_int, ret_bool, ret_flt, ret_slc, ret_str, ret_ptr, ret_agg, ret_tup, ob_some, bb_true, bb_false, List.getElem?_cons_zero, List.getElem?_cons_succ, List.length_cons, List.length_nil, Nat.reduceAdd, Nat.reduceLT]
  refine Evp.nb (fun h1 => ?_) fun h1 => ?_
  · have := of_decide_eq_false h1
    exact Evp.ret (Run.ret ⟨Pre.refl _, by rw [if_neg this]⟩)
  · have h1 := of_decide_eq_true h1
    have hm := area h1
    rw [w64 (by omega)]
    refine Evp.ob (repeat_ok lo _ 1 v (w * h) _ (RdI.lit [v]) (by omega) (by simp; omega)) ?_
    rintro _ ⟨a, M', rfl, p1, hb⟩
    simp only [ret_int, ret_bool, ret_flt, ret_slc, ret_str, ret_ptr, ret_agg, ret_tup, ob_some, bb_true, bb_false, List.getElem?_cons_zero, List.getElem?_cons_succ, List.length_cons, List.length_nil, Nat.reduceAdd, Nat.reduceLT]
    refine Evp.ret (Run.ret ⟨(Pre.app _ _).trans p1, ?_⟩)
    rw [if_pos h1]
    exact ⟨a, rfl, hb.floor (by simp)⟩
theorem new_nat (lo : Nat) (w h : Nat) (v : Int) (M : Mem) (hlo : lo ≤ M.length) (hw : 1 ≤ w ∧ w ≤ 512) (hh : 1 ≤ h ∧ h ≤ 512) :
    Ac P T lo F.plane_New [.int .i64 w, .int .i64 h, .int .u8 v] M fun r => ∃ a M', r = (.tuple ⟨[.agg ⟨[.int .i64 w, .int .i64 h, .slice (some a) (w * h) (w * h)]⟩, .int .i64 0]⟩, M') ∧ Pre M M' ∧ Buf M M' a ((List.replicate (w * h) v).map (Value.int .u8)) := by
  refine Ac.mono (new_ok lo w h v M hlo) ?_
  rintro ⟨r, M'⟩ ⟨hp, h2⟩
  rw [if_pos (by omega), ← Int.natCast_mul] at h2
  simp only [Int.toNat_natCast] at h2
  obtain ⟨a, rfl, hb⟩ := h2
  exact ⟨a, M', rfl, hp, hb⟩
theorem equal_loop (lo : Nat) (A A' : Option Addr) (c c' : Nat) (xs ys : List Int) (M : Mem) (hx : RdI M .u8 A xs) (hy : RdI M .u8 A' ys) (hl : xs.length = ys.length) (hn : xs.length ≤ 140737488351232) :
    ∀ (d i : Nat), xs.length - i = d → i ≤ xs.length → (∀ j, j < i → xs.getD j 0 = ys.getD j 0) → Run P T lo F.slices_Equal__uint8_uint8 (slices_Equal__uint8_uint8.c116 A xs.length c A' ys.length c' xs.length i M) fun r => r = (.bool (decide (xs = ys)), M) := by
  intro d
  induction d with
  | zero =>
    intro i hd hi hj
    refine Run.cut (Evp.of_eq (fun k => slices_Equal__uint8_uint8.p116 k ..) ?_)
    refine Evp.dec (fun h => absurd h (by omega)) fun _ => Evp.ret (Run.ret ?_)
    rw [decide_eq_true (eq_of_getD hl fun j h => hj j (by omega))]
  | succ d ih =>
    intro i hd hi hj
    refine Run.cut (Evp.of_eq (fun k => slices_Equal__uint8_uint8.p116 k ..) ?_)
    refine Evp.dec (fun _ => ?_) fun h => absurd h (by omega)
    refine Evp.pos (by omega) ?_
    simp only [Int.toNat_natCast]
    refine Evp.ldI hx (by omega) fun a _ => ?_
    refine Evp.pos (by omega) ?_
    refine Evp.ldI hy (by omega) fun a' _ => ?_
    refine Evp.neb (fun hne => Evp.ret (Run.ret ?_)) fun he => ?_
    · rw [decide_eq_false (fun e => hne (by rw [e]))]
    · rw [w64 (by omega)]
      exact Evp.ret (ih (i + 1) (by omega) (by omega) fun j h => by
        by_cases hji : j = i
        · subst hji; exact he
        · exact hj j (by omega))
theorem equal_ok (lo : Nat) (A A' : Option Addr) (c c' : Nat) (xs ys : List Int) (M : Mem) (hx : RdI M .u8 A xs) (hy : RdI M .u8 A' ys) (hn : xs.length ≤ 140737488351232) :
    Ac P T lo F.slices_Equal__uint8_uint8 [.slice A xs.length c, .slice A' ys.length c'] M fun r => r = (.bool (decide (xs = ys)), M) := by
  refine Ac.of (Evp.of_eq (fun k => slices_Equal__uint8_uint8.entry k ..) ?_)
  refine Evp.neb (fun h => Evp.ret (Run.ret ?_)) fun h => ?_
  · rw [decide_eq_false (fun e => h (by rw [e]))]
  · exact Evp.ret (equal_loop lo A A' c c' xs ys M hx hy (by omega) hn _ 0 rfl (by omega) fun j h => by omega)

theorem same_ok (lo : Nat) (w h w' h' : Int) (A A' : Option Addr) (c c' : Nat) (xs ys : List Int) (M : Mem) (hx : RdI M .u8 A xs) (hy : RdI M .u8 A' ys) (hn : xs.length ≤ 140737488351232) :
    Ac P T lo F.plane_Same [.agg ⟨[.int .i64 w, .int .i64 h, .slice A xs.length c]⟩, .agg ⟨[.int .i64 w', .int .i64 h', .slice A' ys.length c']⟩] M fun r => r = (.bool (decide (w = w' ∧ h = h' ∧ xs = ys)), M) := by
  refine Ac.of (Evp.of_eq (fun k => plane_Same.entry k ..) ?_)
  refine Evp.eqb (fun h1 => ?_) fun h1 => Evp.ret (Run.ret (by rw [decide_eq_false (fun e => h1 e.1)]))
  refine Evp.eqb (fun h2 => ?_) fun h2 => Evp.ret (Run.ret (by rw [decide_eq_false (fun e => h2 e.2.1)]))
  refine Evp.ob (equal_ok _ _ _ _ _ _ _ _ hx hy hn) ?_
  rintro _ rfl
  simp only [ret_int, ret_bool, ret_flt, ret_slc, ret_str, ret_ptr, ret_agg, ret_tup, ob_some, bb_true, bb_false, List.getElem?_cons_zero, List.getElem?_cons_succ, List.length_cons, List.length_nil, Nat.reduceAdd, Nat.reduceLT]
  refine Evp.ret (Run.ret ?_)
  congr 2
  exact decide_eq_decide.2 (by simp [h1, h2])

def madeT (t : Tp) : Tp := ⟨bringS t.a 16 - 5, bringS t.b 32 - 23, bringS t.c 64 - 17⟩
theorem madeT_may (t : Tp) : TapsP (madeT t) := by
  have h1 := bringS_lt (i := t.a) (n := 16) (by decide)
  have h2 := bringS_lt (i := t.b) (n := 32) (by decide)
  have h3 := bringS_lt (i := t.c) (n := 64) (by decide)
  unfold TapsP madeT
  simp only
  omega
theorem TapsP.wf {t : Tp} (h : TapsP t) : wfI t.a ∧ wfI t.b ∧ wfI t.c := by
  unfold TapsP at h
  simp [wfI, Lit.wf, IntKind.min, IntKind.max, IntKind.signed, IntKind.bits]
  omega
theorem made_ok (lo : Nat) (t : Tp) (M : Mem) : Ac P T lo F.zoetropelaw24_made [.agg ⟨[.int .i64 t.a, .int .i64 t.b, .int .i64 t.c]⟩] M fun r => r = (.agg ⟨[.int .i64 (madeT t).a, .int .i64 (madeT t).b, .int .i64 (madeT t).c]⟩, M) := by
  have h1 := bringS_lt (i := t.a) (n := 16) (by decide)
  have h2 := bringS_lt (i := t.b) (n := 32) (by decide)
  have h3 := bringS_lt (i := t.c) (n := 64) (by decide)
  refine Ac.of (Evp.of_eq (fun k => zoetropelaw24_made.entry k ..) ?_)
  refine Evp.ob (bring_ok _ _ _ _ (by decide)) ?_
  rintro _ rfl
  simp only [ret_int, ret_bool, ret_flt, ret_slc, ret_str, ret_ptr, ret_agg, ret_tup, ob_some, bb_true, bb_false, List.getElem?_cons_zero, List.getElem?_cons_succ, List.length_cons, List.length_nil, Nat.reduceAdd, Nat.reduceLT]
  refine Evp.ob (bring_ok _ _ _ _ (by decide)) ?_
  rintro _ rfl
  simp only [ret_int, ret_bool, ret_flt, ret_slc, ret_str, ret_ptr, ret_agg, ret_tup, ob_some, bb_true, bb_false, List.getElem?_cons_zero, List.getElem?_cons_succ, List.length_cons, List.length_nil, Nat.reduceAdd, Nat.reduceLT]
  refine Evp.ob (bring_ok _ _ _ _ (by decide)) ?_
  rintro _ rfl
  simp only [ret_int, ret_bool, ret_flt, ret_slc, ret_str, ret_ptr, ret_agg, ret_tup, ob_some, bb_true, bb_false, List.getElem?_cons_zero, List.getElem?_cons_succ, List.length_cons, List.length_nil, Nat.reduceAdd, Nat.reduceLT]
  rw [w64 (by omega), w64 (by omega), w64 (by omega)]
  exact Evp.ret (Run.ret rfl)
theorem cellsU_succ (n : Nat) (u : Un) : cellsU (List.replicate (n + 1) u) = cellsU (List.replicate n u) ++ u.cells := by
  unfold cellsU
  rw [List.replicate_succ', List.flatMap_append, List.flatMap_singleton]
theorem all_loop (lo : Nat) (w h side : Nat) (A : Option Addr) (n c : Nat) (u : Un) (M0 : Mem) (hlo : lo ≤ M0.length) (hs : SideP side) (hw : 1 ≤ w ∧ w ≤ 512) (hh : 1 ≤ h ∧ h ≤ 512) : ∀ (d i : Nat) (B : Option Addr) (cb : Nat) (M : Mem), wideN w side * wideN h side - i = d → i ≤ wideN w side * wideN h side → i ≤ cb → Pre M0 M → Grow M0 M 7 B i (cellsU (List.replicate i u)) →
    Run P T lo F.zoetropelaw24_all (zoetropelaw24_all.c116 side B i cb i w h A n c u.on u.v.a u.v.b u.v.c u.h.a u.h.b u.h.c M) fun r => ∃ A' c' M', r = (.slice A' (wideN w side * wideN h side) c', M') ∧ Pre M0 M' ∧ Grow M0 M' 7 A' (wideN w side * wideN h side) (cellsU (List.replicate (wideN w side * wideN h side) u)) := by
  have hs' : side = 64 ∨ side = 32 := hs
  obtain ⟨e1, a1, a2⟩ := wide_eq (n := w) hs (by omega)
  obtain ⟨e2, b1, b2⟩ := wide_eq (n := h) hs (by omega)
  have sm : wideN w side * wideN h side ≤ 16 * 16 := Nat.mul_le_mul a2 b2
  intro d
  induction d with
  | zero =>
    intro i B cb M hd hi hc hp g
    obtain rfl : i = wideN w side * wideN h side := by omega
    refine Run.cut (Evp.of_eq (fun k => zoetropelaw24_all.p116 k ..) ?_)
    refine Evp.neg (by omega) (Evp.neg (by omega) ?_)
    rw [e1, e2, ← Int.natCast_mul, w64 (x := ((wideN w side * wideN h side : Nat) : Int)) (by omega)]
    refine Evp.dec (fun h => absurd h (by omega)) fun _ => Evp.ret (Run.ret ⟨_, _, _, rfl, hp, g⟩)
  | succ d ih =>
    intro i B cb M hd hi hc hp g
    refine Run.cut (Evp.of_eq (fun k => zoetropelaw24_all.p116 k ..) ?_)
    refine Evp.neg (by omega) (Evp.neg (by omega) ?_)
    rw [e1, e2, ← Int.natCast_mul, w64 (x := ((wideN w side * wideN h side : Nat) : Int)) (by omega)]
    refine Evp.dec (fun _ => ?_) fun h => absurd h (by omega)
    obtain ⟨⟨sa, sn, sc⟩, M3, e3, g3, hsn, p3, _, k3⟩ := g.app (lo := lo) (bytes := 56) (c := cb) (m := 1) (vs := u.cells) hp hlo rfl (by omega) (by omega)
    refine Evp.some e3 ?_
    simp only at hsn k3 g3
    subst hsn
    rw [w64 (by omega)]
    rw [← cellsU_succ] at g3
    exact Evp.ret (ih (i + 1) sa sc M3 (by omega) (by omega) (k3 hc) p3 g3)
theorem all_ok (lo : Nat) (w h side : Nat) (A : Option Addr) (n c : Nat) (u : Un) (M0 : Mem) (hlo : lo ≤ M0.length) (hs : SideP side) (hw : 1 ≤ w ∧ w ≤ 512) (hh : 1 ≤ h ∧ h ≤ 512) :
    Ac P T lo F.zoetropelaw24_all [.agg ⟨[.int .i64 w, .int .i64 h, .slice A n c]⟩, .int .i64 side, .agg ⟨[.bool u.on, .int .i64 u.v.a, .int .i64 u.v.b, .int .i64 u.v.c, .int .i64 u.h.a, .int .i64 u.h.b, .int .i64 u.h.c]⟩] M0 fun r => ∃ A' c' M', r = (.slice A' (wideN w side * wideN h side) c', M') ∧ Pre M0 M' ∧ Grow M0 M' 7 A' (wideN w side * wideN h side) (cellsU (List.replicate (wideN w side * wideN h side) u)) := by
  refine Ac.of (Evp.of_eq (fun k => zoetropelaw24_all.entry k ..) ?_)
  exact Evp.ret (all_loop lo w h side A n c u M0 hlo hs hw hh _ 0 none 0 M0 rfl (by omega) (by omega) (Pre.refl _) Grow.nil)
theorem Grow.rdU {M0 M : Mem} {A : Option Addr} {n : Nat} {us : List Un} (h : Grow M0 M 7 A n (cellsU us)) (hl : us.length = n) : RdU M A us := by
  subst hl; exact h.rd
/-! ### Plain -/
theorem acS_congr {ts xs ys : List Int} {w y x : Nat} (h : ∀ j, j < 7 → xs.getD (y * w + cxS w x j) 0 = ys.getD (y * w + cxS w x j) 0) : acS ts xs w y x = acS ts ys w y x := by
  have : accS ts xs w y x 7 = accS ts ys w y x 7 := by
    simp only [accS, h 0 (by omega), h 1 (by omega), h 2 (by omega), h 3 (by omega), h 4 (by omega), h 5 (by omega), h 6 (by omega)]
  unfold acS; rw [this]
theorem sampU_congr {u : Un} {xs bs ys cs : List Int} {w h side y x : Nat} (h1 : ∀ i j, i < 7 → j < 7 → xs.getD (rowN h side y i * w + cxS w x j) 0 = ys.getD (rowN h side y i * w + cxS w x j) 0) (h2 : ∀ i j, i < 7 → j < 7 → bs.getD (rowN h side y i * w + cxS w x j) 0 = cs.getD (rowN h side y i * w + cxS w x j) 0) :
    sampU u xs bs w h side y x = sampU u ys cs w h side y x := by
  have t : ∀ i, i < 7 → tapR (sevL u.h) xs bs w h side y x i = tapR (sevL u.h) ys cs w h side y x i := fun i hi => by
    unfold tapR
    rw [acS_congr (h1 i · hi), acS_congr (h2 i · hi)]
  have : vacc (sevL u.v) (sevL u.h) xs bs w h side y x 7 = vacc (sevL u.v) (sevL u.h) ys cs w h side y x 7 := by
    simp only [vacc, t 0 (by omega), t 1 (by omega), t 2 (by omega), t 3 (by omega), t 4 (by omega), t 5 (by omega), t 6 (by omega)]
  unfold sampU sampW; rw [this]
/-- Rows and columns of the taps are within three. -/
theorem row_near {h side y i : Nat} (hs : SideP side) (hy : y < h) (hi : i < 7) : (rowN h side y i : Int) ≤ y + 3 ∧ (y : Int) - 3 ≤ rowN h side y i := by
  have f := fst_le (y := y) hs
  have e := (row_le hs hy hi).1
  have hs' : side = 64 ∨ side = 32 := hs
  rw [← e]
  unfold rowI clipS
  generalize fstS side y = F at *
  repeat' split
  all_goals omega
theorem col_near {w x i : Nat} (hx : x < w) (hi : i < 7) : (cxS w x i : Int) ≤ x + 3 ∧ (x : Int) - 3 ≤ cxS w x i := by
  have e := (cx_eq (w := w) (x := x) (i := i) (by omega)).1
  rw [← e]
  unfold clipS
  repeat' split
  all_goals omega
theorem taps_sum {t : Tp} (h : TapsP t) (v : Int) : (sevL t).getD 0 0 * v + (sevL t).getD 1 0 * v + (sevL t).getD 2 0 * v + (sevL t).getD 3 0 * v + (sevL t).getD 4 0 * v + (sevL t).getD 5 0 * v + (sevL t).getD 6 0 * v = 128 * v := by
  unfold sevL
  rw [if_pos h]
  show t.a * v + t.b * v + t.c * v + (128 - 2 * (t.a + t.b + t.c)) * v + t.c * v + t.b * v + t.a * v = 128 * v
  rw [Int.sub_mul, Int.mul_assoc, Int.add_mul, Int.add_mul]
  omega
theorem flat_acS {t : Tp} (h : TapsP t) {xs : List Int} {w y x : Nat} {v : Int} (hv : 0 ≤ v ∧ v ≤ 255) (hx : ∀ j, j < 7 → xs.getD (y * w + cxS w x j) 0 = v) : acS (sevL t) xs w y x = 16 * v := by
  have : accS (sevL t) xs w y x 7 = 128 * v := by
    rw [← taps_sum h v]
    simp only [accS, hx 0 (by omega), hx 1 (by omega), hx 2 (by omega), hx 3 (by omega), hx 4 (by omega), hx 5 (by omega), hx 6 (by omega)]
    omega
  unfold acS clipS
  rw [this]
  repeat' split
  all_goals omega
theorem flat_sampU {u : Un} (h1 : TapsP u.v) (h2 : TapsP u.h) {xs bs : List Int} {w h side y x : Nat} {v : Int} (hv : 0 ≤ v ∧ v ≤ 255) (hx : ∀ i j, i < 7 → j < 7 → xs.getD (rowN h side y i * w + cxS w x j) 0 = v) (hb : ∀ i j, i < 7 → j < 7 → bs.getD (rowN h side y i * w + cxS w x j) 0 = v) :
    sampU u xs bs w h side y x = v := by
  have t : ∀ i, i < 7 → tapR (sevL u.h) xs bs w h side y x i = 16 * v := fun i hi => by
    unfold tapR
    rw [flat_acS h2 hv (hx i · hi), flat_acS h2 hv (hb i · hi)]
    split <;> rfl
  have : vacc (sevL u.v) (sevL u.h) xs bs w h side y x 7 = 128 * (16 * v) := by
    rw [← taps_sum h1 (16 * v)]
    simp only [vacc, t 0 (by omega), t 1 (by omega), t 2 (by omega), t 3 (by omega), t 4 (by omega), t 5 (by omega), t 6 (by omega)]
    omega
  unfold sampU sampW clipS
  rw [this]
  repeat' split
  all_goals omega
abbrev t0 : Tp := ⟨0, 0, 0⟩
theorem zero_sampU {xs bs : List Int} {w h side y x : Nat} (bx : Bytes xs) (hs : SideP side) (hy : y < h) (hx : x < w) : sampU ⟨true, t0, t0⟩ xs bs w h side y x = xs.getD (y * w + x) 0 := by
  have f := fst_le (y := y) hs
  have hs' : side = 64 ∨ side = 32 := hs
  have s0 : sevL t0 = [0, 0, 0, 128, 0, 0, 0] := by decide +kernel
  have ec : cxS w x 3 = x := by
    have e := (cx_eq (w := w) (x := x) (i := 3) (by omega)).1
    unfold clipS at e
    repeat' split at e
    all_goals omega
  have er' : rowI h side y 3 = y := by
    unfold rowI clipS
    generalize fstS side y = F at *
    repeat' split
    all_goals omega
  have er : rowN h side y 3 = y := by unfold rowN; rw [er']; omega
  have b := bx.get (y * w + x)
  have ea : acS (sevL t0) xs w y x = 16 * xs.getD (y * w + x) 0 := by
    have : accS (sevL t0) xs w y x 7 = 128 * xs.getD (y * w + x) 0 := by
      rw [s0]
      simp [accS, ec]
    unfold acS clipS
    rw [this]
    generalize xs.getD (y * w + x) 0 = g at *
    repeat' split
    all_goals omega
  have et : tapR (sevL t0) xs bs w h side y x 3 = 16 * xs.getD (y * w + x) 0 := by
    have : inS h side y 3 := by
      unfold inS; rw [er']; omega
    unfold tapR
    rw [if_pos this, er, ea]
  have : vacc (sevL t0) (sevL t0) xs bs w h side y x 7 = 128 * (16 * xs.getD (y * w + x) 0) := by
    have g : ∀ i, (sevL t0).getD i 0 = if i = 3 then 128 else 0 := fun i => by
      rw [s0]
      rcases i with _ | _ | _ | _ | _ | _ | _ | i <;> simp
    simp only [vacc, g, et]
    simp
  unfold sampU sampW clipS
  rw [this]
  generalize xs.getD (y * w + x) 0 = g at *
  repeat' split
  all_goals omega
/-- What stays. -/
theorem outW_same {us : List Un} {xs bs : List Int} {w h side : Nat} (hn : xs.length = h * w) (hw : 1 ≤ w) (hh : ∀ y x, y < h → x < w → (us.getD (y / side * wideN w side + x / side) u0).on = true → sampU (us.getD (y / side * wideN w side + x / side) u0) xs bs w h side y x = xs.getD (y * w + x) 0) : outW us xs bs w h side = xs := by
  refine ext_getD (by rw [outW_len, hn]) fun p hp => ?_
  rw [outW_len] at hp
  unfold outW
  rw [getD_map_range hp]
  have hy : p / w < h := (Nat.div_lt_iff_lt_mul (by omega)).2 hp
  have hx : p % w < w := Nat.mod_lt _ (by omega)
  have e : p / w * w + p % w = p := by rw [Nat.mul_comm]; exact Nat.div_add_mod p w
  have := hh (p / w) (p % w) hy hx
  rw [e] at this
  unfold tgtW
  split
  · rename_i h; exact this h
  · rfl
end Go.Zt
