/- Narrow filters, the program's. -/
import Derived.Test.YtibbmknipkifeaaFf
set_option linter.unusedVariables false
set_option linter.unusedSimpArgs false
set_option maxRecDepth 100000
namespace Go.Zt
theorem Buf.in_ {M0 M : Mem} {a : Addr} {cs : List Value} (h : Buf M0 M a cs) : a.block < M.length := by
  obtain ⟨k, h1, h2, h3, h4⟩ := h
  exact (List.getElem?_eq_some_iff.1 h3).1
section
variable {lo : Nat} {A : Option Addr} {c : Nat} {xs : List Int} {M0 : Mem} {a : Addr} {cc b3 b4 : Nat}
theorem n2_ok (hlo : lo ≤ M0.length) (hn : xs.length ≤ 1000) (M : Mem) (hp : Pre M0 M) (zs : List Int) (hz : zs.length = xs.length) (hb : Buf M0 M a (zs.map (Value.int .u8))) (g3 : M[b3]? = some ⟨.fx, [.slice (some a) xs.length cc]⟩) (g4 : M[b4]? = some ⟨.fx, [.slice A xs.length c, .int .i64 ((xs.length / 2 : Nat) : Int)]⟩) (n3 : a.block ≠ b3) (n4 : a.block ≠ b4) (i v : Int) (h0 : 0 ≤ ((xs.length / 2 : Nat) : Int) + i) (h1 : ((xs.length / 2 : Nat) : Int) + i < xs.length) :
    Ac P T lo F.deblock_line_narrow_2 [.int .i64 i, .int .i64 v, .pointer (some ⟨b3, 0, none⟩), .pointer (some ⟨b4, 0, none⟩)] M fun r => ∃ M', r = (.tuple ⟨[]⟩, M') ∧ Pre M0 M' ∧ Buf M0 M' a ((zs.set (((xs.length / 2 : Nat) : Int) + i).toNat (clipS v 0 255)).map (Value.int .u8)) ∧ M'[b3]? = some ⟨.fx, [.slice (some a) xs.length cc]⟩ ∧ M'[b4]? = some ⟨.fx, [.slice A xs.length c, .int .i64 ((xs.length / 2 : Nat) : Int)]⟩ := by
  have l3 := lt_of_get g3
  have l4 := lt_of_get g4
  refine Ac.of (Evp.of_eq (fun k => deblock_line_narrow_2.entry k ..) ?_)
  refine Evp.some (b := ⟨some a, xs.length, cc⟩) (by rw [if_pos l3, fx_ld g3]; rfl) ?_
  refine Evp.some (b := ((xs.length / 2 : Nat) : Int)) (by rw [if_pos (by rw [plus_block]; exact l4), fx_ldp g4]; rfl) ?_
  refine Evp.ob (dclip_ok _ _ _ _ _ (by decide)) ?_
  rintro _ rfl
  simp only [ret_int, ret_bool, ret_flt, ret_slc, ret_str, ret_ptr, ret_agg, ret_tup, ob_some, bb_true, bb_false, List.getElem?_cons_zero, List.getElem?_cons_succ, List.length_cons, List.length_nil, Nat.reduceAdd, Nat.reduceLT]
  have k := clipS_le (v := v) (a := 0) (b := 255) (by decide)
  rw [w64 (x := ((xs.length / 2 : Nat) : Int) + i) (by omega), wu8 k]
  refine Evp.pos (by omega) (Evp.some rfl ?_)
  obtain ⟨M1, s1, s2, s3, s4, s5⟩ := hb.st (lo := lo) (i := (((xs.length / 2 : Nat) : Int) + i).toNat) (vs := [.int .u8 (clipS v 0 255)]) hp hlo (by simp; omega)
  refine Evp.some s1 ?_
  rw [setL_one, set_map] at s2
  exact Evp.ret (Run.ret ⟨M1, rfl, s3, s2, s4 _ _ g3 (fun a' h => by cases h; exact n3), s4 _ _ g4 (fun a' h => by cases h; exact n4)⟩)
end
theorem narrow_ok (lo : Nat) (A : Option Addr) (c : Nat) (xs : List Int) (M : Mem) (lim edge t : Int) (hlo : lo ≤ M.length) (hx : RdI M .u8 A xs) (bx : Bytes xs) (hn : xs.length ≤ 1000) (h2 : 2 * (xs.length / 2) = xs.length) (h4 : 4 ≤ xs.length) :
    Ac P T lo F.deblock_line_narrow [.agg ⟨[.slice A xs.length c, .int .i64 ((xs.length / 2 : Nat) : Int)]⟩, .agg ⟨[.int .i64 lim, .int .i64 edge, .int .i64 t]⟩] M fun r => ∃ a cc M', r = (.slice (some a) xs.length cc, M') ∧ Pre M M' ∧ Buf M M' a ((narrowL xs t).map (Value.int .u8)) := by
  have v1 := atE_le xs bx (-2)
  have v2 := atE_le xs bx (-1)
  have v3 := atE_le xs bx 0
  have v4 := atE_le xs bx 1
  have g0 := push_self M ⟨.fx, [.slice A xs.length c, .int .i64 ((xs.length / 2 : Nat) : Int)]⟩
  have p1 := Pre.app M [⟨.fx, [.slice A xs.length c, .int .i64 ((xs.length / 2 : Nat) : Int)]⟩]
  have l1 := lt_of_get g0
  refine Ac.of (Evp.of_eq (fun k => deblock_line_narrow.entry k ..) ?_)
  generalize (M ++ [⟨.fx, [.slice A xs.length c, .int .i64 ((xs.length / 2 : Nat) : Int)]⟩] : Mem) = M1 at *
  have hx1 := hx.pre p1
  have ldA : (M1.ld ⟨M.length, 0, none⟩).bind Value.slc? = some ⟨A, xs.length, c⟩ := by rw [fx_ld g0]; rfl
  have ldH : (M1.ld (plus ⟨M.length, 0, none⟩ 1)).bind (Value.int? .i64) = some ((xs.length / 2 : Nat) : Int) := by rw [fx_ldp g0]; rfl
  have ret : ∀ (a : Addr) (cc b3 : Nat) (M' : Mem), Pre M M' → Buf M M' a ((narrowL xs t).map (Value.int .u8)) → M'[b3]? = some ⟨.fx, [.slice (some a) xs.length cc]⟩ → Run P T lo F.deblock_line_narrow (deblock_line_narrow.c16383 ⟨b3, 0, none⟩ M') fun r => ∃ a cc M', r = (.slice (some a) xs.length cc, M') ∧ Pre M M' ∧ Buf M M' a ((narrowL xs t).map (Value.int .u8)) := fun a cc b3 M' hp hb g => by
    refine Run.cut (Evp.of_eq (fun k => deblock_line_narrow.p16383 k ..) ?_)
    refine Evp.some (b := ⟨some a, xs.length, cc⟩) (by rw [fx_ld g]; rfl) ?_
    exact Evp.ret (Run.ret ⟨a, cc, M', rfl, hp, hb⟩)
  have fin : ∀ (b : Bool), (b = true ↔ hevP xs t) → Run P T lo F.deblock_line_narrow (deblock_line_narrow.c127 ⟨M.length, 0, none⟩ (atE xs (-2)) (atE xs (-1)) (atE xs 0) (atE xs 1) b (fE0 xs t) M1) fun r => ∃ a cc M', r = (.slice (some a) xs.length cc, M') ∧ Pre M M' ∧ Buf M M' a ((narrowL xs t).map (Value.int .u8)) := fun b hb => by
    have hf0 : -128 ≤ fE0 xs t ∧ fE0 xs t ≤ 127 := by
      unfold fE0; split
      · exact cB_le _
      · omega
    refine Run.cut (Evp.of_eq (fun k => deblock_line_narrow.p127 k ..) ?_)
    rw [w64 (x := atE xs 0 - atE xs (-1)) (by omega), w64 (x := 3 * (atE xs 0 - atE xs (-1))) (by omega), w64 (x := fE0 xs t + 3 * (atE xs 0 - atE xs (-1))) (by omega)]
    refine Evp.ob (n1_ok ..) ?_
    rintro _ rfl
    simp only [ret_int, ret_bool, ret_flt, ret_slc, ret_str, ret_ptr, ret_agg, ret_tup, ob_some, bb_true, bb_false, List.getElem?_cons_zero, List.getElem?_cons_succ, List.length_cons, List.length_nil, Nat.reduceAdd, Nat.reduceLT]
    rw [show cB (fE0 xs t + 3 * (atE xs 0 - atE xs (-1))) = fE xs t from rfl]
    have hf : -128 ≤ fE xs t ∧ fE xs t ≤ 127 := cB_le _
    rw [w64 (x := fE xs t + 4) (by omega), w64 (x := fE xs t + 3) (by omega)]
    refine Evp.ob (n1_ok ..) ?_
    rintro _ rfl
    simp only [ret_int, ret_bool, ret_flt, ret_slc, ret_str, ret_ptr, ret_agg, ret_tup, ob_some, bb_true, bb_false, List.getElem?_cons_zero, List.getElem?_cons_succ, List.length_cons, List.length_nil, Nat.reduceAdd, Nat.reduceLT]
    refine Evp.some ldA ?_
    refine Evp.ob (clone_ok lo A c xs M1 hx1 (by omega) (by omega) (Nat.le_trans hlo p1.len)) ?_
    rintro _ ⟨a, cc, M2, rfl, p2, hcc, hbuf⟩
    simp only [ret_int, ret_bool, ret_flt, ret_slc, ret_str, ret_ptr, ret_agg, ret_tup, ob_some, bb_true, bb_false, List.getElem?_cons_zero, List.getElem?_cons_succ, List.length_cons, List.length_nil, Nat.reduceAdd, Nat.reduceLT]
    have ha : -16 ≤ aE xs t ∧ aE xs t ≤ 16 := by have := cB_le (fE xs t + 4); unfold aE; omega
    have hbb : -16 ≤ bE xs t ∧ bE xs t ≤ 16 := by have := cB_le (fE xs t + 3); unfold bE; omega
    have hd : -16 ≤ dE xs t ∧ dE xs t ≤ 16 := by unfold dE; omega
    refine Evp.some (push_st (us := [.slice none 0 0]) (vs := [.slice (some a) xs.length cc]) (Nat.le_trans hlo (p1.trans p2).len) rfl) ?_
    have nw := hbuf.new
    have inn := hbuf.in_
    have g3 := push_self M2 ⟨.fx, [.slice (some a) xs.length cc]⟩
    have g4 := get_push (x := ⟨.fx, [.slice (some a) xs.length cc]⟩) (p2 _ _ g0)
    have p3 := Pre.app M2 [⟨.fx, [.slice (some a) xs.length cc]⟩]
    have hb3 := (hbuf.floor (M0 := M) p1.len).pre p3
    have q3 := (p1.trans p2).trans p3
    rw [shr3, show cB (fE xs t + 4) / 8 = aE xs t from rfl, w64 (x := atE xs 0 - aE xs t) (by omega)]
    generalize (M2 ++ [⟨.fx, [.slice (some a) xs.length cc]⟩] : Mem) = M3 at *
    refine Evp.ob (n2_ok hlo hn M3 q3 xs rfl hb3 g3 g4 (by omega) (by omega) 0 (atE xs 0 - aE xs t) (by omega) (by omega)) ?_
    rintro _ ⟨M4, rfl, q4, b4, g3, g4⟩
    simp only [ret_int, ret_bool, ret_flt, ret_slc, ret_str, ret_ptr, ret_agg, ret_tup, ob_some, bb_true, bb_false, List.getElem?_cons_zero, List.getElem?_cons_succ, List.length_cons, List.length_nil, Nat.reduceAdd, Nat.reduceLT]
    refine Evp.ob (n1_ok ..) ?_
    rintro _ rfl
    simp only [ret_int, ret_bool, ret_flt, ret_slc, ret_str, ret_ptr, ret_agg, ret_tup, ob_some, bb_true, bb_false, List.getElem?_cons_zero, List.getElem?_cons_succ, List.length_cons, List.length_nil, Nat.reduceAdd, Nat.reduceLT]
    rw [shr3, show cB (fE xs t + 3) / 8 = bE xs t from rfl, w64 (x := atE xs (-1) + bE xs t) (by omega)]
    refine Evp.ob (n2_ok hlo hn M4 q4 _ (by simp) b4 g3 g4 (by omega) (by omega) (-1) (atE xs (-1) + bE xs t) (by omega) (by omega)) ?_
    rintro _ ⟨M5, rfl, q5, b5, g3, g4⟩
    simp only [ret_int, ret_bool, ret_flt, ret_slc, ret_str, ret_ptr, ret_agg, ret_tup, ob_some, bb_true, bb_false, List.getElem?_cons_zero, List.getElem?_cons_succ, List.length_cons, List.length_nil, Nat.reduceAdd, Nat.reduceLT]
    have i0 : (((xs.length / 2 : Nat) : Int) + 0).toNat = xs.length / 2 := by omega
    have i1 : (((xs.length / 2 : Nat) : Int) + -1).toNat = xs.length / 2 - 1 := by omega
    rw [i0, i1] at b5
    refine Evp.nb (fun hf => ?_) fun hf => ?_
    · have hne : ¬ hevP xs t := fun h => by rw [hb.2 h] at hf; exact absurd hf (by decide)
      rw [w64 (x := aE xs t + 1) (by omega), shr1, show (aE xs t + 1) / 2 = dE xs t from rfl, w64 (x := atE xs 1 - dE xs t) (by omega), w64 (x := atE xs (-2) + dE xs t) (by omega)]
      refine Evp.ob (n2_ok hlo hn M5 q5 _ (by simp) b5 g3 g4 (by omega) (by omega) 1 (atE xs 1 - dE xs t) (by omega) (by omega)) ?_
      rintro _ ⟨M6, rfl, q6, b6, g3, g4⟩
      simp only [ret_int, ret_bool, ret_flt, ret_slc, ret_str, ret_ptr, ret_agg, ret_tup, ob_some, bb_true, bb_false, List.getElem?_cons_zero, List.getElem?_cons_succ, List.length_cons, List.length_nil, Nat.reduceAdd, Nat.reduceLT]
      refine Evp.ob (n2_ok hlo hn M6 q6 _ (by simp) b6 g3 g4 (by omega) (by omega) (-2) (atE xs (-2) + dE xs t) (by omega) (by omega)) ?_
      rintro _ ⟨M7, rfl, q7, b7, g3, g4⟩
      simp only [ret_int, ret_bool, ret_flt, ret_slc, ret_str, ret_ptr, ret_agg, ret_tup, ob_some, bb_true, bb_false, List.getElem?_cons_zero, List.getElem?_cons_succ, List.length_cons, List.length_nil, Nat.reduceAdd, Nat.reduceLT]
      have i2 : (((xs.length / 2 : Nat) : Int) + 1).toNat = xs.length / 2 + 1 := by omega
      have i3 : (((xs.length / 2 : Nat) : Int) + -2).toNat = xs.length / 2 - 2 := by omega
      rw [i2, i3] at b7
      exact Evp.ret (ret a cc _ M7 q7 (by unfold narrowL; rw [if_neg hne]; exact b7) g3)
    · exact Evp.ret (ret a cc _ M5 q5 (by unfold narrowL; rw [if_pos (hb.1 hf)]; exact b5) g3)
  have cF : hevP xs t → cB (atE xs (-2) - atE xs 1) = fE0 xs t := fun h => by unfold fE0; rw [if_pos h]
  have lA : (if M.length < M1.length then M1.ld ⟨M.length, 0, none⟩ else none).bind Value.slc? = some ⟨A, xs.length, c⟩ := by rw [if_pos l1]; exact ldA
  have lH : (if M.length < M1.length then M1.ld (plus ⟨M.length, 0, none⟩ 1) else none).bind (Value.int? .i64) = some ((xs.length / 2 : Nat) : Int) := by rw [if_pos l1]; exact ldH
  refine Evp.some ldA (Evp.some ldH ?_)
  refine Evp.ob (p_ok _ _ _ _ _ hx1 hn 1 (by omega) (by omega)) ?_
  rintro _ rfl
  simp only [ret_int, ret_bool, ret_flt, ret_slc, ret_str, ret_ptr, ret_agg, ret_tup, ob_some, bb_true, bb_false, List.getElem?_cons_zero, List.getElem?_cons_succ, List.length_cons, List.length_nil, Nat.reduceAdd, Nat.reduceLT]
  refine Evp.some lA (Evp.some lH ?_)
  refine Evp.ob (p_ok _ _ _ _ _ hx1 hn 0 (by omega) (by omega)) ?_
  rintro _ rfl
  simp only [ret_int, ret_bool, ret_flt, ret_slc, ret_str, ret_ptr, ret_agg, ret_tup, ob_some, bb_true, bb_false, List.getElem?_cons_zero, List.getElem?_cons_succ, List.length_cons, List.length_nil, Nat.reduceAdd, Nat.reduceLT]
  refine Evp.some lA (Evp.some lH ?_)
  refine Evp.ob (q_ok _ _ _ _ _ hx1 hn 0 (by omega) (by omega)) ?_
  rintro _ rfl
  simp only [ret_int, ret_bool, ret_flt, ret_slc, ret_str, ret_ptr, ret_agg, ret_tup, ob_some, bb_true, bb_false, List.getElem?_cons_zero, List.getElem?_cons_succ, List.length_cons, List.length_nil, Nat.reduceAdd, Nat.reduceLT]
  refine Evp.some lA (Evp.some lH ?_)
  refine Evp.ob (q_ok _ _ _ _ _ hx1 hn 1 (by omega) (by omega)) ?_
  rintro _ rfl
  simp only [ret_int, ret_bool, ret_flt, ret_slc, ret_str, ret_ptr, ret_agg, ret_tup, ob_some, bb_true, bb_false, List.getElem?_cons_zero, List.getElem?_cons_succ, List.length_cons, List.length_nil, Nat.reduceAdd, Nat.reduceLT]
  refine Evp.some ldA (Evp.some ldH ?_)
  refine Evp.ob (p_ok _ _ _ _ _ hx1 hn 1 (by omega) (by omega)) ?_
  rintro _ rfl
  simp only [ret_int, ret_bool, ret_flt, ret_slc, ret_str, ret_ptr, ret_agg, ret_tup, ob_some, bb_true, bb_false, List.getElem?_cons_zero, List.getElem?_cons_succ, List.length_cons, List.length_nil, Nat.reduceAdd, Nat.reduceLT]
  refine Evp.some lA (Evp.some lH ?_)
  refine Evp.ob (p_ok _ _ _ _ _ hx1 hn 0 (by omega) (by omega)) ?_
  rintro _ rfl
  simp only [ret_int, ret_bool, ret_flt, ret_slc, ret_str, ret_ptr, ret_agg, ret_tup, ob_some, bb_true, bb_false, List.getElem?_cons_zero, List.getElem?_cons_succ, List.length_cons, List.length_nil, Nat.reduceAdd, Nat.reduceLT]
  rw [show (-1 - 1 : Int) = -2 by omega, show (-1 - 0 : Int) = -1 by omega]
  refine Evp.ob (far_ok _ _ _ _ v1 v2) ?_
  rintro _ rfl
  simp only [ret_int, ret_bool, ret_flt, ret_slc, ret_str, ret_ptr, ret_agg, ret_tup, ob_some, bb_true, bb_false, List.getElem?_cons_zero, List.getElem?_cons_succ, List.length_cons, List.length_nil, Nat.reduceAdd, Nat.reduceLT]
  rw [w64 (x := atE xs (-2)) (by omega), w64 (x := atE xs (-1)) (by omega), w64 (x := atE xs 0) (by omega), w64 (x := atE xs 1) (by omega), w64 (x := atE xs (-2) - atE xs 1) (by omega), show absS (atE xs (-2) - atE xs (-1)) = farE xs (-2) (-1) from rfl]
  refine Evp.dec (fun h => ?_) fun h1 => ?_
  · refine Evp.ob (n1_ok ..) ?_
    rintro _ rfl
    simp only [ret_int, ret_bool, ret_flt, ret_slc, ret_str, ret_ptr, ret_agg, ret_tup, ob_some, bb_true, bb_false, List.getElem?_cons_zero, List.getElem?_cons_succ, List.length_cons, List.length_nil, Nat.reduceAdd, Nat.reduceLT]
    rw [cF (.inl h)]
    exact Evp.ret (fin true ⟨fun _ => .inl h, fun _ => rfl⟩)
  · refine Evp.some ldA (Evp.some ldH ?_)
    refine Evp.ob (q_ok _ _ _ _ _ hx1 hn 1 (by omega) (by omega)) ?_
    rintro _ rfl
    simp only [ret_int, ret_bool, ret_flt, ret_slc, ret_str, ret_ptr, ret_agg, ret_tup, ob_some, bb_true, bb_false, List.getElem?_cons_zero, List.getElem?_cons_succ, List.length_cons, List.length_nil, Nat.reduceAdd, Nat.reduceLT]
    refine Evp.some lA (Evp.some lH ?_)
    refine Evp.ob (q_ok _ _ _ _ _ hx1 hn 0 (by omega) (by omega)) ?_
    rintro _ rfl
    simp only [ret_int, ret_bool, ret_flt, ret_slc, ret_str, ret_ptr, ret_agg, ret_tup, ob_some, bb_true, bb_false, List.getElem?_cons_zero, List.getElem?_cons_succ, List.length_cons, List.length_nil, Nat.reduceAdd, Nat.reduceLT]
    refine Evp.ob (far_ok _ _ _ _ v4 v3) ?_
    rintro _ rfl
    simp only [ret_int, ret_bool, ret_flt, ret_slc, ret_str, ret_ptr, ret_agg, ret_tup, ob_some, bb_true, bb_false, List.getElem?_cons_zero, List.getElem?_cons_succ, List.length_cons, List.length_nil, Nat.reduceAdd, Nat.reduceLT]
    rw [show absS (atE xs 1 - atE xs 0) = farE xs 1 0 from rfl]
    have iffd : decide (farE xs 1 0 > t) = true ↔ hevP xs t := ⟨fun h => .inr (of_decide_eq_true h), fun h => decide_eq_true (by rcases h with h | h; exact absurd h h1; exact h)⟩
    refine Evp.dec (fun h => ?_) fun h => ?_
    · refine Evp.ob (n1_ok ..) ?_
      rintro _ rfl
      simp only [ret_int, ret_bool, ret_flt, ret_slc, ret_str, ret_ptr, ret_agg, ret_tup, ob_some, bb_true, bb_false, List.getElem?_cons_zero, List.getElem?_cons_succ, List.length_cons, List.length_nil, Nat.reduceAdd, Nat.reduceLT]
      rw [cF (.inr h)]
      exact Evp.ret (fin _ iffd)
    · have h0 : fE0 xs t = 0 := by unfold fE0; rw [if_neg (fun e => by rcases e with e | e; exact h1 e; exact h e)]
      have := fin _ iffd
      rw [h0] at this
      exact Evp.ret this
end Go.Zt
