/- What the law PoolNames needs of the text Fu. -/
import Derived.Test.YtjmahpemdghncaaPFt
import Derived.KernelRfl
set_option linter.unusedVariables false
set_option linter.unusedSimpArgs false
set_option maxRecDepth 100000
set_option maxHeartbeats 4000000
namespace Go.Zt
theorem pool_Pool_noneN.entry (k lo : Nat) (M : Mem) : entry P T k lo F.pool_Pool_none [.pointer none] M =
 some (.ret (.bool true) M) := by kernel_rfl
theorem pool_Pool_slotN.entry (k lo : Nat) (x1 : Int) (M : Mem) : entry P T k lo F.pool_Pool_slot [.pointer none, .int .i64 x1] M =
 ob (acall P T k lo F.pool_Pool_none [.pointer none] M) fun r7 =>
 ob ((some r7.1).bind Value.bool?) fun b8 =>
 bb b8
 (some (.ret (.tuple ⟨[.agg ⟨[.bool false, .int .i64 0, .int .i64 0, .slice none 0 0, .int .i64 0, .int .i64 0, .slice none 0 0, .int .i64 0, .int .i64 0, .slice none 0 0, .slice none 0 0]⟩, .int .i64 1]⟩) r7.2))
 (bb (decide (x1 < 0))
 (some (.ret (.tuple ⟨[.agg ⟨[.bool false, .int .i64 0, .int .i64 0, .slice none 0 0, .int .i64 0, .int .i64 0, .slice none 0 0, .int .i64 0, .int .i64 0, .slice none 0 0, .slice none 0 0]⟩, .int .i64 2]⟩) r7.2))
 (bb (decide (x1 ≥ 8))
 (some (.ret (.tuple ⟨[.agg ⟨[.bool false, .int .i64 0, .int .i64 0, .slice none 0 0, .int .i64 0, .int .i64 0, .slice none 0 0, .int .i64 0, .int .i64 0, .slice none 0 0, .slice none 0 0]⟩, .int .i64 2]⟩) r7.2))
 (none))) := by kernel_rfl
theorem pool_Pool_FrameN.entry (k lo : Nat) (x1 : Int) (M : Mem) : entry P T k lo F.pool_Pool_Frame [.pointer none, .int .i64 x1] M =
 ob (acall P T k lo F.pool_Pool_slot [.pointer none, .int .i64 x1] M) fun r7 =>
 ob (r7.1.tup? 2) fun l8 =>
 ob ((l8[0]?).bind (Value.agg? 11)) fun l9 =>
 ob ((l9[0]?).bind Value.bool?) fun b10 =>
 ob ((l9[1]?).bind (Value.int? .i64)) fun x11 =>
 ob ((l9[2]?).bind (Value.int? .i64)) fun x12 =>
 ob ((l9[3]?).bind Value.slc?) fun s13 =>
 ob ((l9[4]?).bind (Value.int? .i64)) fun x14 =>
 ob ((l9[5]?).bind (Value.int? .i64)) fun x15 =>
 ob ((l9[6]?).bind Value.slc?) fun s16 =>
 ob ((l9[7]?).bind (Value.int? .i64)) fun x17 =>
 ob ((l9[8]?).bind (Value.int? .i64)) fun x18 =>
 ob ((l9[9]?).bind Value.slc?) fun s19 =>
 ob ((l9[10]?).bind Value.slc?) fun s20 =>
 ob ((l8[1]?).bind (Value.int? .i64)) fun x21 =>
 bb (x21 != 0)
 (some (.ret (.tuple ⟨[.agg ⟨[.int .i64 0, .int .i64 0, .slice none 0 0, .int .i64 0, .int .i64 0, .slice none 0 0, .int .i64 0, .int .i64 0, .slice none 0 0]⟩, .int .i64 x21]⟩) r7.2))
 (ob (acall P T k lo F.pool_copied [.agg ⟨[.int .i64 x11, .int .i64 x12, .slice s13.a s13.n s13.c, .int .i64 x14, .int .i64 x15, .slice s16.a s16.n s16.c, .int .i64 x17, .int .i64 x18, .slice s19.a s19.n s19.c]⟩] r7.2) fun r22 =>
 ob ((some r22.1).bind (Value.agg? 9)) fun l23 =>
 ob ((l23[0]?).bind (Value.int? .i64)) fun x24 =>
 ob ((l23[1]?).bind (Value.int? .i64)) fun x25 =>
 ob ((l23[2]?).bind Value.slc?) fun s26 =>
 ob ((l23[3]?).bind (Value.int? .i64)) fun x27 =>
 ob ((l23[4]?).bind (Value.int? .i64)) fun x28 =>
 ob ((l23[5]?).bind Value.slc?) fun s29 =>
 ob ((l23[6]?).bind (Value.int? .i64)) fun x30 =>
 ob ((l23[7]?).bind (Value.int? .i64)) fun x31 =>
 ob ((l23[8]?).bind Value.slc?) fun s32 =>
 some (.ret (.tuple ⟨[.agg ⟨[.int .i64 x24, .int .i64 x25, .slice s26.a s26.n s26.c, .int .i64 x27, .int .i64 x28, .slice s29.a s29.n s29.c, .int .i64 x30, .int .i64 x31, .slice s32.a s32.n s32.c]⟩, .int .i64 0]⟩) r22.2)) := by kernel_rfl
theorem pool_Pool_SetN.entry (k lo : Nat) (x1 : Int) (M : Mem) : entry P T k lo F.pool_Pool_Set [.pointer none, .int .i64 x1] M =
 ob (acall P T k lo F.pool_Pool_slot [.pointer none, .int .i64 x1] M) fun r7 =>
 ob (r7.1.tup? 2) fun l8 =>
 ob ((l8[0]?).bind (Value.agg? 11)) fun l9 =>
 ob ((l9[0]?).bind Value.bool?) fun b10 =>
 ob ((l9[1]?).bind (Value.int? .i64)) fun x11 =>
 ob ((l9[2]?).bind (Value.int? .i64)) fun x12 =>
 ob ((l9[3]?).bind Value.slc?) fun s13 =>
 ob ((l9[4]?).bind (Value.int? .i64)) fun x14 =>
 ob ((l9[5]?).bind (Value.int? .i64)) fun x15 =>
 ob ((l9[6]?).bind Value.slc?) fun s16 =>
 ob ((l9[7]?).bind (Value.int? .i64)) fun x17 =>
 ob ((l9[8]?).bind (Value.int? .i64)) fun x18 =>
 ob ((l9[9]?).bind Value.slc?) fun s19 =>
 ob ((l9[10]?).bind Value.slc?) fun s20 =>
 ob ((l8[1]?).bind (Value.int? .i64)) fun x21 =>
 bb (x21 != 0)
 (some (.ret (.tuple ⟨[.agg ⟨[.slice none 0 0]⟩, .int .i64 x21]⟩) r7.2))
 (ob (acall P T k lo F.syms_Copy [.agg ⟨[.slice s20.a s20.n s20.c]⟩] r7.2) fun r22 =>
 ob ((some r22.1).bind (Value.agg? 1)) fun l23 =>
 ob ((l23[0]?).bind Value.slc?) fun s24 =>
 some (.ret (.tuple ⟨[.agg ⟨[.slice s24.a s24.n s24.c]⟩, .int .i64 0]⟩) r22.2)) := by kernel_rfl
theorem pool_Pool_CopyN.entry (k lo : Nat) (M : Mem) : entry P T k lo F.pool_Pool_Copy [.pointer none] M =
 ob (acall P T k lo F.pool_Pool_none [.pointer none] M) fun r6 =>
 ob ((some r6.1).bind Value.bool?) fun b7 =>
 bb b7
 (some (.ret (.tuple ⟨[.pointer none, .int .i64 1]⟩) r6.2))
 (none) := by kernel_rfl
theorem pool_Pool_HasN.entry (k lo : Nat) (M : Mem) : entry P T k lo F.pool_Pool_Has [.pointer none] M =
 ob (acall P T k lo F.pool_Pool_none [.pointer none] M) fun r6 =>
 ob ((some r6.1).bind Value.bool?) fun b7 =>
 bb b7
 (some (.ret (.int .i64 0) r6.2))
 (none) := by kernel_rfl
theorem pool_Pool_PutN.entry (k lo : Nat) (x1 : Int) (x2 : Int) (x3 : Int) (A4 : Option Addr) (n5 : Nat) (c6 : Nat) (x7 : Int) (x8 : Int) (A9 : Option Addr) (n10 : Nat) (c11 : Nat) (x12 : Int) (x13 : Int) (A14 : Option Addr) (n15 : Nat) (c16 : Nat) (A17 : Option Addr) (n18 : Nat) (c19 : Nat) (M : Mem) : entry P T k lo F.pool_Pool_Put [.pointer none, .int .i64 x1, .agg ⟨[.int .i64 x2, .int .i64 x3, .slice A4 n5 c6, .int .i64 x7, .int .i64 x8, .slice A9 n10 c11, .int .i64 x12, .int .i64 x13, .slice A14 n15 c16]⟩, .agg ⟨[.slice A17 n18 c19]⟩] M =
 ob (acall P T k lo F.pool_Pool_none [.pointer none] M) fun r25 =>
 ob ((some r25.1).bind Value.bool?) fun b26 =>
 bb b26
 (some (.ret (.int .i64 1) r25.2))
 (bb (decide (x1 < 0))
 (some (.ret (.int .i64 2) r25.2))
 (bb (decide (x1 > 255))
 (some (.ret (.int .i64 2) r25.2))
 (ob (acall P T k lo F.plane_Whole [.agg ⟨[.int .i64 x2, .int .i64 x3, .slice A4 n5 c6, .int .i64 x7, .int .i64 x8, .slice A9 n10 c11, .int .i64 x12, .int .i64 x13, .slice A14 n15 c16]⟩] r25.2) fun r27 =>
 ob ((some r27.1).bind (Value.int? .i64)) fun x28 =>
 bb (x28 != 0)
 (some (.ret (.int .i64 2) r27.2))
 (ob (acall P T k lo F.syms_Check [.agg ⟨[.slice A17 n18 c19]⟩] r27.2) fun r29 =>
 ob ((some r29.1).bind (Value.int? .i64)) fun x30 =>
 bb (x30 != 0)
 (some (.ret (.int .i64 2) r29.2))
 (ob (acall P T k r29.2.length F.pool_copied [.agg ⟨[.int .i64 x2, .int .i64 x3, .slice A4 n5 c6, .int .i64 x7, .int .i64 x8, .slice A9 n10 c11, .int .i64 x12, .int .i64 x13, .slice A14 n15 c16]⟩] r29.2) fun r31 =>
 ob ((some r31.1).bind (Value.agg? 9)) fun l32 =>
 ob ((l32[0]?).bind (Value.int? .i64)) fun x33 =>
 ob ((l32[1]?).bind (Value.int? .i64)) fun x34 =>
 ob ((l32[2]?).bind Value.slc?) fun s35 =>
 ob ((l32[3]?).bind (Value.int? .i64)) fun x36 =>
 ob ((l32[4]?).bind (Value.int? .i64)) fun x37 =>
 ob ((l32[5]?).bind Value.slc?) fun s38 =>
 ob ((l32[6]?).bind (Value.int? .i64)) fun x39 =>
 ob ((l32[7]?).bind (Value.int? .i64)) fun x40 =>
 ob ((l32[8]?).bind Value.slc?) fun s41 =>
 ob (acall P T k lo F.syms_Copy [.agg ⟨[.slice A17 n18 c19]⟩] r31.2) fun r42 =>
 ob ((some r42.1).bind (Value.agg? 1)) fun l43 =>
 ob ((l43[0]?).bind Value.slc?) fun s44 =>
 some (.cut 244 [.v (.pointer none), .v (.int .i64 x1), .l 9 0, .v (.int .i64 0)] [[.bool true, .int .i64 x33, .int .i64 x34, .slice s35.a s35.n s35.c, .int .i64 x36, .int .i64 x37, .slice s38.a s38.n s38.c, .int .i64 x39, .int .i64 x40, .slice s41.a s41.n s41.c, .slice s44.a s44.n s44.c]] r42.2)))))) := by kernel_rfl
theorem pool_SameN.entry (k lo : Nat) (a1 : Addr) (M : Mem) : entry P T k lo F.pool_Same [.pointer none, .pointer (some a1)] M =
 ob (acall P T k lo F.pool_Pool_none [.pointer none] M) fun r7 =>
 ob ((some r7.1).bind Value.bool?) fun b8 =>
 bb b8
 (ob (acall P T k lo F.pool_Pool_none [.pointer none] r7.2) fun r9 =>
 ob ((some r9.1).bind Value.bool?) fun b10 =>
 bb b10
 (ob (acall P T k lo F.pool_Pool_none [.pointer (some a1)] r9.2) fun r11 =>
 ob ((some r11.1).bind Value.bool?) fun b12 =>
 some (.ret (.bool b12) r11.2))
 (some (.ret (.bool false) r9.2)))
 (ob (acall P T k lo F.pool_Pool_none [.pointer (some a1)] r7.2) fun r13 =>
 ob ((some r13.1).bind Value.bool?) fun b14 =>
 bb b14
 (ob (acall P T k lo F.pool_Pool_none [.pointer none] r13.2) fun r15 =>
 ob ((some r15.1).bind Value.bool?) fun b16 =>
 bb b16
 (ob (acall P T k lo F.pool_Pool_none [.pointer (some a1)] r15.2) fun r17 =>
 ob ((some r17.1).bind Value.bool?) fun b18 =>
 some (.ret (.bool b18) r17.2))
 (some (.ret (.bool false) r15.2)))
 (none)) := by kernel_rfl
theorem Ac.low {lo : Nat} {f : FuncId} {args : List Value} {M : Mem} {Q : Value × Mem → Prop} (h : Ac P T lo f args M Q) : Ac P T lo f args M fun r => Q r ∧ Low lo M r.2 := by
  obtain ⟨r, hr, K, hK⟩ := h
  exact ⟨r, ⟨hr, acall_low P T K lo f args M r.1 r.2 (hK K (Nat.le_refl _))⟩, K, hK⟩
def NoP (M : Mem) (p : Option Addr) : Prop := p = none ∨ ∃ b cs, p = some ⟨b, 0, none⟩ ∧ M[b]? = some ⟨.fx, .bool false :: cs⟩
theorem NoP.pre {M M' : Mem} {p : Option Addr} (h : NoP M p) (hp : Pre M M') : NoP M' p := by
  rcases h with h | ⟨b, cs, h1, h2⟩
  · exact .inl h
  · exact .inr ⟨b, cs, h1, hp _ _ h2⟩
section
variable (lo : Nat) {M : Mem} {p : Option Addr} (h : NoP M p)
include h
theorem none_no : Ac P T lo F.pool_Pool_none [.pointer p] M fun r => r = (.bool true, M) := by
  rcases h with rfl | ⟨b, cs, rfl, h2⟩
  · refine Ac.of (Evp.of_eq (fun k => pool_Pool_noneN.entry k ..) ?_)
    exact Evp.ret (Run.ret rfl)
  · refine Ac.of (Evp.of_eq (fun k => pool_Pool_none.entry k ..) ?_)
    exact Evp.some (b := false) (by rw [fx_ld h2]; rfl) (Evp.ret (Run.ret rfl))
theorem slot_no (n : Int) : Ac P T lo F.pool_Pool_slot [.pointer p, .int .i64 n] M fun r => r = (.tuple ⟨[.agg ⟨RawS.zero.cells⟩, .int .i64 1]⟩, M) := by
  cases p with
  | none =>
    refine Ac.of (Evp.of_eq (fun k => pool_Pool_slotN.entry k ..) ?_)
    refine Evp.ob (none_no lo h) ?_
    rintro _ rfl
    simp only [ret_int, ret_bool, ret_flt, ret_slc, ret_str, ret_ptr, ret_agg, ret_tup, ob_some, bb_true, bb_false, List.getElem?_cons_zero, List.getElem?_cons_succ, List.length_cons, List.length_nil, Nat.reduceAdd, Nat.reduceLT]
    exact Evp.tt rfl (Evp.ret (Run.ret rfl))
  | some a =>
    refine Ac.of (Evp.of_eq (fun k => pool_Pool_slot.entry k ..) ?_)
    refine Evp.ob (none_no lo h) ?_
    rintro _ rfl
    simp only [ret_int, ret_bool, ret_flt, ret_slc, ret_str, ret_ptr, ret_agg, ret_tup, ob_some, bb_true, bb_false, List.getElem?_cons_zero, List.getElem?_cons_succ, List.length_cons, List.length_nil, Nat.reduceAdd, Nat.reduceLT]
    exact Evp.tt rfl (Evp.ret (Run.ret rfl))
theorem pframe_no (n : Int) : Ac P T lo F.pool_Pool_Frame [.pointer p, .int .i64 n] M fun r => r = (.tuple ⟨[.agg ⟨[.int .i64 0, .int .i64 0, .slice none 0 0, .int .i64 0, .int .i64 0, .slice none 0 0, .int .i64 0, .int .i64 0, .slice none 0 0]⟩, .int .i64 1]⟩, M) := by
  cases p with
  | none =>
    refine Ac.of (Evp.of_eq (fun k => pool_Pool_FrameN.entry k ..) ?_)
    refine Evp.ob (slot_no lo h n) ?_
    rintro _ rfl
    simp only [RawS.cells, RawS.zero, ret_int, ret_bool, ret_flt, ret_slc, ret_str, ret_ptr, ret_agg, ret_tup, ob_some, bb_true, bb_false, List.getElem?_cons_zero, List.getElem?_cons_succ, List.length_cons, List.length_nil, Nat.reduceAdd, Nat.reduceLT]
    exact Evp.tt rfl (Evp.ret (Run.ret rfl))
  | some a =>
    refine Ac.of (Evp.of_eq (fun k => pool_Pool_Frame.entry k ..) ?_)
    refine Evp.ob (slot_no lo h n) ?_
    rintro _ rfl
    simp only [RawS.cells, RawS.zero, ret_int, ret_bool, ret_flt, ret_slc, ret_str, ret_ptr, ret_agg, ret_tup, ob_some, bb_true, bb_false, List.getElem?_cons_zero, List.getElem?_cons_succ, List.length_cons, List.length_nil, Nat.reduceAdd, Nat.reduceLT]
    exact Evp.tt rfl (Evp.ret (Run.ret rfl))
theorem pset_no (n : Int) : Ac P T lo F.pool_Pool_Set [.pointer p, .int .i64 n] M fun r => r = (.tuple ⟨[.agg ⟨[.slice none 0 0]⟩, .int .i64 1]⟩, M) := by
  cases p with
  | none =>
    refine Ac.of (Evp.of_eq (fun k => pool_Pool_SetN.entry k ..) ?_)
    refine Evp.ob (slot_no lo h n) ?_
    rintro _ rfl
    simp only [RawS.cells, RawS.zero, ret_int, ret_bool, ret_flt, ret_slc, ret_str, ret_ptr, ret_agg, ret_tup, ob_some, bb_true, bb_false, List.getElem?_cons_zero, List.getElem?_cons_succ, List.length_cons, List.length_nil, Nat.reduceAdd, Nat.reduceLT]
    exact Evp.tt rfl (Evp.ret (Run.ret rfl))
  | some a =>
    refine Ac.of (Evp.of_eq (fun k => pool_Pool_Set.entry k ..) ?_)
    refine Evp.ob (slot_no lo h n) ?_
    rintro _ rfl
    simp only [RawS.cells, RawS.zero, ret_int, ret_bool, ret_flt, ret_slc, ret_str, ret_ptr, ret_agg, ret_tup, ob_some, bb_true, bb_false, List.getElem?_cons_zero, List.getElem?_cons_succ, List.length_cons, List.length_nil, Nat.reduceAdd, Nat.reduceLT]
    exact Evp.tt rfl (Evp.ret (Run.ret rfl))
theorem pcopy_no : Ac P T lo F.pool_Pool_Copy [.pointer p] M fun r => r = (.tuple ⟨[.pointer none, .int .i64 1]⟩, M) := by
  cases p with
  | none =>
    refine Ac.of (Evp.of_eq (fun k => pool_Pool_CopyN.entry k ..) ?_)
    refine Evp.ob (none_no lo h) ?_
    rintro _ rfl
    simp only [ret_int, ret_bool, ret_flt, ret_slc, ret_str, ret_ptr, ret_agg, ret_tup, ob_some, bb_true, bb_false, List.getElem?_cons_zero, List.getElem?_cons_succ, List.length_cons, List.length_nil, Nat.reduceAdd, Nat.reduceLT]
    exact Evp.tt rfl (Evp.ret (Run.ret rfl))
  | some a =>
    refine Ac.of (Evp.of_eq (fun k => pool_Pool_Copy.entry k ..) ?_)
    refine Evp.ob (none_no lo h) ?_
    rintro _ rfl
    simp only [ret_int, ret_bool, ret_flt, ret_slc, ret_str, ret_ptr, ret_agg, ret_tup, ob_some, bb_true, bb_false, List.getElem?_cons_zero, List.getElem?_cons_succ, List.length_cons, List.length_nil, Nat.reduceAdd, Nat.reduceLT]
    exact Evp.tt rfl (Evp.ret (Run.ret rfl))
theorem has_no : Ac P T lo F.pool_Pool_Has [.pointer p] M fun r => r = (.int .i64 0, M) := by
  cases p with
  | none =>
    refine Ac.of (Evp.of_eq (fun k => pool_Pool_HasN.entry k ..) ?_)
    refine Evp.ob (none_no lo h) ?_
    rintro _ rfl
    simp only [ret_int, ret_bool, ret_flt, ret_slc, ret_str, ret_ptr, ret_agg, ret_tup, ob_some, bb_true, bb_false, List.getElem?_cons_zero, List.getElem?_cons_succ, List.length_cons, List.length_nil, Nat.reduceAdd, Nat.reduceLT]
    exact Evp.tt rfl (Evp.ret (Run.ret rfl))
  | some a =>
    refine Ac.of (Evp.of_eq (fun k => pool_Pool_Has.entry k ..) ?_)
    refine Evp.ob (none_no lo h) ?_
    rintro _ rfl
    simp only [ret_int, ret_bool, ret_flt, ret_slc, ret_str, ret_ptr, ret_agg, ret_tup, ob_some, bb_true, bb_false, List.getElem?_cons_zero, List.getElem?_cons_succ, List.length_cons, List.length_nil, Nat.reduceAdd, Nat.reduceLT]
    exact Evp.tt rfl (Evp.ret (Run.ret rfl))
theorem put_no : Ac P T lo F.pool_Pool_Put [.pointer p, .int .i64 (-1), .agg ⟨[.int .i64 0, .int .i64 0, .slice none 0 0, .int .i64 0, .int .i64 0, .slice none 0 0, .int .i64 0, .int .i64 0, .slice none 0 0]⟩, .agg ⟨[.slice none 0 0]⟩] M fun r => r = (.int .i64 1, M) := by
  cases p with
  | none =>
    refine Ac.of (Evp.of_eq (fun k => pool_Pool_PutN.entry k ..) ?_)
    refine Evp.ob (none_no lo h) ?_
    rintro _ rfl
    simp only [ret_int, ret_bool, ret_flt, ret_slc, ret_str, ret_ptr, ret_agg, ret_tup, ob_some, bb_true, bb_false, List.getElem?_cons_zero, List.getElem?_cons_succ, List.length_cons, List.length_nil, Nat.reduceAdd, Nat.reduceLT]
    exact Evp.tt rfl (Evp.ret (Run.ret rfl))
  | some a =>
    refine Ac.of (Evp.of_eq (fun k => pool_Pool_Put.entry k ..) ?_)
    refine Evp.ob (none_no lo h) ?_
    rintro _ rfl
    simp only [ret_int, ret_bool, ret_flt, ret_slc, ret_str, ret_ptr, ret_agg, ret_tup, ob_some, bb_true, bb_false, List.getElem?_cons_zero, List.getElem?_cons_succ, List.length_cons, List.length_nil, Nat.reduceAdd, Nat.reduceLT]
    exact Evp.tt rfl (Evp.ret (Run.ret rfl))
omit h
theorem same_nil (a : Addr) (v : Bool) (hn : Ac P T lo F.pool_Pool_none [.pointer (some a)] M fun r => r = (.bool v, M)) : Ac P T lo F.pool_Same [.pointer none, .pointer (some a)] M fun r => r = (.bool v, M) := by
  have h0 : NoP M none := .inl rfl
  refine Ac.of (Evp.of_eq (fun k => pool_SameN.entry k ..) ?_)
  refine Evp.ob (none_no lo h0) ?_
  rintro _ rfl
  simp only [ret_int, ret_bool, ret_flt, ret_slc, ret_str, ret_ptr, ret_agg, ret_tup, ob_some, bb_true, bb_false, List.getElem?_cons_zero, List.getElem?_cons_succ, List.length_cons, List.length_nil, Nat.reduceAdd, Nat.reduceLT]
  refine Evp.tt rfl ?_
  refine Evp.ob (none_no lo h0) ?_
  rintro _ rfl
  simp only [ret_int, ret_bool, ret_flt, ret_slc, ret_str, ret_ptr, ret_agg, ret_tup, ob_some, bb_true, bb_false, List.getElem?_cons_zero, List.getElem?_cons_succ, List.length_cons, List.length_nil, Nat.reduceAdd, Nat.reduceLT]
  refine Evp.tt rfl ?_
  refine Evp.ob (hn) ?_
  rintro _ rfl
  simp only [ret_int, ret_bool, ret_flt, ret_slc, ret_str, ret_ptr, ret_agg, ret_tup, ob_some, bb_true, bb_false, List.getElem?_cons_zero, List.getElem?_cons_succ, List.length_cons, List.length_nil, Nat.reduceAdd, Nat.reduceLT]
  exact Evp.ret (Run.ret rfl)
theorem same_made (a a' : Addr) (hn : Ac P T lo F.pool_Pool_none [.pointer (some a)] M fun r => r = (.bool false, M)) (hn' : Ac P T lo F.pool_Pool_none [.pointer (some a')] M fun r => r = (.bool true, M)) : Ac P T lo F.pool_Same [.pointer (some a), .pointer (some a')] M fun r => r = (.bool false, M) := by
  refine Ac.of (Evp.of_eq (fun k => pool_Same.entry k ..) ?_)
  refine Evp.ob (hn) ?_
  rintro _ rfl
  simp only [ret_int, ret_bool, ret_flt, ret_slc, ret_str, ret_ptr, ret_agg, ret_tup, ob_some, bb_true, bb_false, List.getElem?_cons_zero, List.getElem?_cons_succ, List.length_cons, List.length_nil, Nat.reduceAdd, Nat.reduceLT]
  refine Evp.ff rfl ?_
  refine Evp.ob (hn') ?_
  rintro _ rfl
  simp only [ret_int, ret_bool, ret_flt, ret_slc, ret_str, ret_ptr, ret_agg, ret_tup, ob_some, bb_true, bb_false, List.getElem?_cons_zero, List.getElem?_cons_succ, List.length_cons, List.length_nil, Nat.reduceAdd, Nat.reduceLT]
  refine Evp.tt rfl ?_
  refine Evp.ob (hn) ?_
  rintro _ rfl
  simp only [ret_int, ret_bool, ret_flt, ret_slc, ret_str, ret_ptr, ret_agg, ret_tup, ob_some, bb_true, bb_false, List.getElem?_cons_zero, List.getElem?_cons_succ, List.length_cons, List.length_nil, Nat.reduceAdd, Nat.reduceLT]
  exact Evp.ff rfl (Evp.ret (Run.ret rfl))
end
def playsL : List Int := [5, 16, 16, 7, 0, 0, 0, 2, 1, 32, 16, 9, 1, 0, 0, 0, 256, 16, 16, 0, 0, 0, 0, 0, 128, 16, 16, 0, 0, 0, 1, 7, 128, 16, 16, 0, 0, 0, 2, 8, 128, 0, 0, 0, 0, 0, 0, 7, 255, 16, 18, 0, 0, 7, 0, 0]
theorem plays_dos {M : Mem} {b : Nat} (h : M[b]? = some ⟨.fx, playsL.map (Value.int .i64)⟩) : DosAt M (some ⟨b, 0, none⟩) 7 := fun i hi => by
  have hl : playsL.length = 56 := rfl
  have c : ∀ n, n < 56 → M.ld (plus ⟨b, 0, none⟩ n) = some (.int .i64 (playsL.getD n 0)) := fun n hn => by
    rw [plus_eq, fx_ld h, Nat.zero_add, List.getElem?_map, List.getElem?_eq_getElem (by rw [hl]; exact hn), List.getD_eq_getElem?_getD, List.getElem?_eq_getElem (by rw [hl]; exact hn)]
    rfl
  refine ⟨_, playsL.getD (i * 8 + 0) 0, playsL.getD (i * 8 + 1) 0, playsL.getD (i * 8 + 2) 0, playsL.getD (i * 8 + 3) 0, playsL.getD (i * 8 + 4) 0, playsL.getD (i * 8 + 5) 0, playsL.getD (i * 8 + 6) 0, playsL.getD (i * 8 + 7) 0, rfl, fun j hj => ?_⟩
  rw [c _ (by omega)]
  obtain rfl | rfl | rfl | rfl | rfl | rfl | rfl | rfl : j = 0 ∨ j = 1 ∨ j = 2 ∨ j = 3 ∨ j = 4 ∨ j = 5 ∨ j = 6 ∨ j = 7 := by omega
  all_goals rfl
theorem zf_bad (r : Int) (rows : List (List Tb)) : ¬ PutP r ⟨0, 0, [], 0, 0, [], 0, 0, []⟩ rows := fun h => absurd h.2.2.1.len.1.1 (by decide)
theorem zs_bad (r : Int) (f : FrV) : ¬ PutP r f [] := fun h => absurd h.2.2.2.1 (by decide)
theorem setNil (S : Nat → Prop) (M : Mem) : SetIs S M none [] := ⟨fun a e => (by cases e), [], ⟨rfl, rfl⟩, fun k row e => (by cases e)⟩
section
variable (lo : Nat) (a0 a1 a2 : Addr) (c0 c1 c2 : Nat) (As : Option Addr) (cs : Nat) (n0 : Nat)
theorem names_tail (p1 : Addr) (M : Mem) (hfr : FrIs (fun x => x < n0) M (some a0) (some a1) (some a2) (fr16 7)) (hset : SetIs (fun x => x < n0) M As defSet) (hn0 : n0 ≤ M.length) (hlo : lo ≤ M.length) (hp : NoP M (some p1)) :
    Run P T lo F.zoetropelaw26_PoolNames (zoetropelaw26_PoolNames.c244 (some p1) 2 (fr16 7).w0 (fr16 7).h0 (some a0) (fr16 7).x0.length c0 (fr16 7).w1 (fr16 7).h1 (some a1) (fr16 7).x1.length c1 (fr16 7).w2 (fr16 7).h2 (some a2) (fr16 7).x2.length c2 As defSet.length cs M) fun r => r.1 = .bool true := by
  have hsb : ∀ row ∈ defSet, row.length ≤ 140737488355328 ∧ ∀ t ∈ row, t.1.length ≤ 140737488355328 := fun row hr => by
    obtain ⟨e1, e2, e3⟩ := defSet_ok.ne.2 row hr
    exact ⟨by omega, fun t ht => by have := (e3 t ht).2; omega⟩
  refine Run.cut (Evp.of_eq (fun k => zoetropelaw26_PoolNames.p244 k ..) ?_)
  refine Evp.ff rfl ?_
  refine Evp.ob (pnew_ok lo (fun x => M.length < x) M) ?_
  rintro _ ⟨M1, rfl, q1, l1, hpool⟩
  simp only [ret_int, ret_bool, ret_flt, ret_slc, ret_str, ret_ptr, ret_agg, ret_tup, ob_some, bb_true, bb_false, List.getElem?_cons_zero, List.getElem?_cons_succ, List.length_cons, List.length_nil, Nat.reduceAdd, Nat.reduceLT]
  have hp1 := hp.pre q1
  obtain ⟨R, hR, _⟩ := id hpool
  have hmade := pnone_ok lo M.length R M1 hR
  refine Evp.ob (same_nil lo p1 true (none_no lo hp1)) ?_
  rintro _ rfl
  simp only [ret_int, ret_bool, ret_flt, ret_slc, ret_str, ret_ptr, ret_agg, ret_tup, ob_some, bb_true, bb_false, List.getElem?_cons_zero, List.getElem?_cons_succ, List.length_cons, List.length_nil, Nat.reduceAdd, Nat.reduceLT]
  refine Evp.ff rfl ?_
  refine Evp.ob (same_nil lo _ false hmade) ?_
  rintro _ rfl
  simp only [ret_int, ret_bool, ret_flt, ret_slc, ret_str, ret_ptr, ret_agg, ret_tup, ob_some, bb_true, bb_false, List.getElem?_cons_zero, List.getElem?_cons_succ, List.length_cons, List.length_nil, Nat.reduceAdd, Nat.reduceLT]
  refine Evp.ff rfl ?_
  refine Evp.ob (same_made lo _ p1 hmade (none_no lo hp1)) ?_
  rintro _ rfl
  simp only [ret_int, ret_bool, ret_flt, ret_slc, ret_str, ret_ptr, ret_agg, ret_tup, ob_some, bb_true, bb_false, List.getElem?_cons_zero, List.getElem?_cons_succ, List.length_cons, List.length_nil, Nat.reduceAdd, Nat.reduceLT]
  refine Evp.ff rfl ?_
  have hfr1 := hfr.keepS q1.keepS
  have hset1 := hset.pre q1
  refine Evp.ob (put_bad lo _ M.length _ M1 (some a0) (some a1) (some a2) As c0 c1 c2 cs (fr16 7) defSet 256 _ hpool hset1 hsb (fun h => absurd h.2.1 (by decide))) ?_
  rintro _ rfl
  simp only [ret_int, ret_bool, ret_flt, ret_slc, ret_str, ret_ptr, ret_agg, ret_tup, ob_some, bb_true, bb_false, List.getElem?_cons_zero, List.getElem?_cons_succ, List.length_cons, List.length_nil, Nat.reduceAdd, Nat.reduceLT]
  refine Evp.ff rfl ?_
  refine Evp.ob (put_bad lo _ M.length _ M1 (some a0) (some a1) (some a2) As c0 c1 c2 cs (fr16 7) defSet (-1) _ hpool hset1 hsb (fun h => absurd h.1 (by decide))) ?_
  rintro _ rfl
  simp only [ret_int, ret_bool, ret_flt, ret_slc, ret_str, ret_ptr, ret_agg, ret_tup, ob_some, bb_true, bb_false, List.getElem?_cons_zero, List.getElem?_cons_succ, List.length_cons, List.length_nil, Nat.reduceAdd, Nat.reduceLT]
  refine Evp.ff rfl ?_
  refine Evp.ob (put_bad lo _ M.length _ M1 none none none As 0 0 0 cs ⟨0, 0, [], 0, 0, [], 0, 0, []⟩ defSet 1 _ hpool hset1 hsb (zf_bad _ _)) ?_
  rintro _ rfl
  simp only [ret_int, ret_bool, ret_flt, ret_slc, ret_str, ret_ptr, ret_agg, ret_tup, ob_some, bb_true, bb_false, List.getElem?_cons_zero, List.getElem?_cons_succ, List.length_cons, List.length_nil, Nat.reduceAdd, Nat.reduceLT]
  refine Evp.ff rfl ?_
  refine Evp.ob (put_bad lo _ M.length _ M1 (some a0) (some a1) (some a2) none c0 c1 c2 0 (fr16 7) [] 1 _ hpool (setNil (fun _ => True) M1) (fun row h => absurd h (List.not_mem_nil)) (zs_bad _ _)) ?_
  rintro _ rfl
  simp only [ret_int, ret_bool, ret_flt, ret_slc, ret_str, ret_ptr, ret_agg, ret_tup, ob_some, bb_true, bb_false, List.getElem?_cons_zero, List.getElem?_cons_succ, List.length_cons, List.length_nil, Nat.reduceAdd, Nat.reduceLT]
  refine Evp.ff rfl ?_
  refine Evp.ob (has_ok lo _ M.length _ M1 hpool) ?_
  rintro _ rfl
  simp only [ret_int, ret_bool, ret_flt, ret_slc, ret_str, ret_ptr, ret_agg, ret_tup, ob_some, bb_true, bb_false, List.getElem?_cons_zero, List.getElem?_cons_succ, List.length_cons, List.length_nil, Nat.reduceAdd, Nat.reduceLT]
  refine Evp.ff rfl ?_
  refine Evp.ob (put_ok lo _ M.length _ M1 (some a0) (some a1) (some a2) As c0 c1 c2 cs (fr16 7) defSet 0 _ hpool (by omega) _ hfr1 hset1 ⟨by decide, by decide, fr16_whole 7, defSet_ok⟩ hlo) ?_
  rintro _ ⟨M2, rfl, kb2, l2, hpool2⟩
  simp only [ret_int, ret_bool, ret_flt, ret_slc, ret_str, ret_ptr, ret_agg, ret_tup, ob_some, bb_true, bb_false, List.getElem?_cons_zero, List.getElem?_cons_succ, List.length_cons, List.length_nil, Nat.reduceAdd, Nat.reduceLT]
  refine Evp.ff rfl ?_
  have ks2 : KeepS (fun x => x < n0) M1 M2 := kb2.keepS (by omega)
  refine Evp.ob (has_ok lo _ M.length _ M2 hpool2) ?_
  rintro _ rfl
  simp only [ret_int, ret_bool, ret_flt, ret_slc, ret_str, ret_ptr, ret_agg, ret_tup, ob_some, bb_true, bb_false, List.getElem?_cons_zero, List.getElem?_cons_succ, List.length_cons, List.length_nil, Nat.reduceAdd, Nat.reduceLT]
  refine Evp.ff (by rw [show hasN (putS (fun _ => none) 0 (fr16 7, defSet)) 8 = 0 by decide +kernel]; rfl) ?_
  refine Evp.ob (put_ok lo _ M.length _ M2 (some a0) (some a1) (some a2) As c0 c1 c2 cs (fr16 7) defSet 255 _ hpool2 (by omega) _ (hfr1.keepS ks2) (hset1.keepS ks2) ⟨by decide, by decide, fr16_whole 7, defSet_ok⟩ hlo) ?_
  rintro _ ⟨M3, rfl, kb3, l3, hpool3⟩
  simp only [ret_int, ret_bool, ret_flt, ret_slc, ret_str, ret_ptr, ret_agg, ret_tup, ob_some, bb_true, bb_false, List.getElem?_cons_zero, List.getElem?_cons_succ, List.length_cons, List.length_nil, Nat.reduceAdd, Nat.reduceLT]
  refine Evp.ff rfl ?_
  refine Evp.ob (has_ok lo _ M.length _ M3 hpool3) ?_
  rintro _ rfl
  simp only [ret_int, ret_bool, ret_flt, ret_slc, ret_str, ret_ptr, ret_agg, ret_tup, ob_some, bb_true, bb_false, List.getElem?_cons_zero, List.getElem?_cons_succ, List.length_cons, List.length_nil, Nat.reduceAdd, Nat.reduceLT]
  refine Evp.ff (by rw [show hasN (putS (putS (fun _ => none) 0 (fr16 7, defSet)) 255 (fr16 7, defSet)) 8 = 255 by decide +kernel]; rfl) ?_
  refine Evp.ob (awake_ok lo _ (by rw [List.length_append]; omega)) ?_
  rintro _ ⟨M4, rfl, p4⟩
  simp only [ret_int, ret_bool, ret_flt, ret_slc, ret_str, ret_ptr, ret_agg, ret_tup, ob_some, bb_true, bb_false, List.getElem?_cons_zero, List.getElem?_cons_succ, List.length_cons, List.length_nil, Nat.reduceAdd, Nat.reduceLT]
  refine Evp.tt rfl ?_
  have hb4 : M4[M3.length]? = some ⟨.fx, playsL.map (Value.int .i64)⟩ := p4 _ _ (push_self _ _)
  have l4 := lt_of_get hb4
  refine Evp.ob (plays_ok M4.length M4 _ 7 7 0 (Nat.le_refl _) (plays_dos hb4) (fun _ a e => by injection e with e; subst e; exact l4) (by decide)).low ?_
  rintro ⟨v5, M5⟩ ⟨h5, w5⟩
  obtain rfl : v5 = .bool true := h5
  simp only [ret_int, ret_bool, ret_flt, ret_slc, ret_str, ret_ptr, ret_agg, ret_tup, ob_some, bb_true, bb_false, List.getElem?_cons_zero, List.getElem?_cons_succ, List.length_cons, List.length_nil, Nat.reduceAdd, Nat.reduceLT]
  refine Evp.tt rfl ?_
  have hb5 : M5[M3.length]? = some ⟨.fx, playsL.map (Value.int .i64)⟩ := (w5.2 _ l4 l4).trans hb4
  have l5 := lt_of_get hb5
  refine Evp.ob (plays_ok M5.length M5 _ 7 7 1 (Nat.le_refl _) (plays_dos hb5) (fun _ a e => by injection e with e; subst e; exact l5) (by decide)) ?_
  rintro ⟨v6, M6⟩ h6
  obtain rfl : v6 = .bool true := h6
  simp only [ret_int, ret_bool, ret_flt, ret_slc, ret_str, ret_ptr, ret_agg, ret_tup, ob_some, bb_true, bb_false, List.getElem?_cons_zero, List.getElem?_cons_succ, List.length_cons, List.length_nil, Nat.reduceAdd, Nat.reduceLT]
  refine Evp.tt rfl ?_
  refine Evp.ob (plays_ok M6.length M6 none 0 0 0 (Nat.le_refl _) (fun i hi => absurd hi (by omega)) (fun h => absurd rfl h) (by decide)) ?_
  rintro ⟨v7, M7⟩ h7
  obtain rfl : v7 = .bool true := h7
  simp only [ret_int, ret_bool, ret_flt, ret_slc, ret_str, ret_ptr, ret_agg, ret_tup, ob_some, bb_true, bb_false, List.getElem?_cons_zero, List.getElem?_cons_succ, List.length_cons, List.length_nil, Nat.reduceAdd, Nat.reduceLT]
  exact Evp.ret (Run.ret rfl)
theorem names_loop : ∀ (d x : Nat) (p : Option Addr) (M : Mem), 2 - x = d → x ≤ 2 → (x = 2 → ∃ a, p = some a) → FrIs (fun x => x < n0) M (some a0) (some a1) (some a2) (fr16 7) → SetIs (fun x => x < n0) M As defSet → n0 ≤ M.length → lo ≤ M.length → NoP M p →
    Run P T lo F.zoetropelaw26_PoolNames (zoetropelaw26_PoolNames.c244 p (x : Int) (fr16 7).w0 (fr16 7).h0 (some a0) (fr16 7).x0.length c0 (fr16 7).w1 (fr16 7).h1 (some a1) (fr16 7).x1.length c1 (fr16 7).w2 (fr16 7).h2 (some a2) (fr16 7).x2.length c2 As defSet.length cs M) fun r => r.1 = .bool true := by
  intro d
  induction d with
  | zero =>
    intro x p M hd hx hp2 hfr hset hn0 hlo hp
    obtain rfl : x = 2 := by omega
    obtain ⟨a, rfl⟩ := hp2 rfl
    exact names_tail lo a0 a1 a2 c0 c1 c2 As cs n0 a M hfr hset hn0 hlo hp
  | succ d ih =>
    intro x p M hd hx hp2 hfr hset hn0 hlo hp
    refine Run.cut (Evp.of_eq (fun k => zoetropelaw26_PoolNames.p244 k ..) ?_)
    refine Evp.dec (fun _ => ?_) fun h => absurd h (by omega)
    refine Evp.ob (pframe_no lo hp 9) ?_
    rintro _ rfl
    simp only [ret_int, ret_bool, ret_flt, ret_slc, ret_str, ret_ptr, ret_agg, ret_tup, ob_some, bb_true, bb_false, List.getElem?_cons_zero, List.getElem?_cons_succ, List.length_cons, List.length_nil, Nat.reduceAdd, Nat.reduceLT]
    refine Evp.ob (pset_no lo hp (-1)) ?_
    rintro _ rfl
    simp only [ret_int, ret_bool, ret_flt, ret_slc, ret_str, ret_ptr, ret_agg, ret_tup, ob_some, bb_true, bb_false, List.getElem?_cons_zero, List.getElem?_cons_succ, List.length_cons, List.length_nil, Nat.reduceAdd, Nat.reduceLT]
    refine Evp.ob (pcopy_no lo hp) ?_
    rintro _ rfl
    simp only [ret_int, ret_bool, ret_flt, ret_slc, ret_str, ret_ptr, ret_agg, ret_tup, ob_some, bb_true, bb_false, List.getElem?_cons_zero, List.getElem?_cons_succ, List.length_cons, List.length_nil, Nat.reduceAdd, Nat.reduceLT]
    refine Evp.ff rfl (Evp.ff rfl (Evp.ff rfl (Evp.ff rfl (Evp.ff rfl (Evp.ff rfl ?_)))))
    refine Evp.ob (has_no lo hp) ?_
    rintro _ rfl
    simp only [ret_int, ret_bool, ret_flt, ret_slc, ret_str, ret_ptr, ret_agg, ret_tup, ob_some, bb_true, bb_false, List.getElem?_cons_zero, List.getElem?_cons_succ, List.length_cons, List.length_nil, Nat.reduceAdd, Nat.reduceLT]
    refine Evp.ff rfl ?_
    refine Evp.ob (put_no lo hp) ?_
    rintro _ rfl
    simp only [ret_int, ret_bool, ret_flt, ret_slc, ret_str, ret_ptr, ret_agg, ret_tup, ob_some, bb_true, bb_false, List.getElem?_cons_zero, List.getElem?_cons_succ, List.length_cons, List.length_nil, Nat.reduceAdd, Nat.reduceLT]
    refine Evp.ff rfl (Evp.ret ?_)
    rw [w64 (x := (x : Int) + 1) (by omega)]
    exact ih (x + 1) _ _ (by omega) (by omega) (fun _ => ⟨_, rfl⟩) (hfr.keepS (Pre.app _ _).keepS) (hset.pre (Pre.app _ _)) (by rw [List.length_append]; omega) (by rw [List.length_append]; omega) (.inr ⟨_, _, rfl, push_self _ _⟩)
end
theorem PoolNames_law (M : Mem) (vs : List Value) (hro : AllRo M) (hv : LaysArgs P M [] vs) : Ac P T M.length F.zoetropelaw26_PoolNames vs M fun r => r.1 = .bool true := by
  obtain rfl := Arg.PoolNames hv
  refine Ac.of (Evp.of_eq (fun k => zoetropelaw26_PoolNames.entry k ..) ?_)
  refine Evp.ob (usual_ok _ M (Nat.le_refl _)) ?_
  rintro _ ⟨a0, a1, a2, c0, c1, c2, As, cs, M1, rfl, p1, b0, b1, b2, hs⟩
  simp only [ret_int, ret_bool, ret_flt, ret_slc, ret_str, ret_ptr, ret_agg, ret_tup, ob_some, bb_true, bb_false, List.getElem?_cons_zero, List.getElem?_cons_succ, List.length_cons, List.length_nil, Nat.reduceAdd, Nat.reduceLT]
  have l1 := p1.len
  have hsl := hs.lt (by decide) fun row hr => ⟨(defSet_ok.ne.2 row hr).1, fun t ht => ((defSet_ok.ne.2 row hr).2.2 t ht).1⟩
  have i0 := b0.in_
  have i1 := b1.in_
  have i2 := b2.in_
  have hfr : FrIs (fun x => x < M1.length) M1 (some a0) (some a1) (some a2) (fr16 7) := ⟨fun a e => by injection e with e; subst e; exact i0, fun a e => by injection e with e; subst e; exact i1, fun a e => by injection e with e; subst e; exact i2, b0.rdI, b1.rdI, b2.rdI⟩
  exact Evp.ret (names_loop _ a0 a1 a2 c0 c1 c2 As cs M1.length 2 0 none M1 rfl (by omega) (fun h => absurd h (by decide)) hfr (hsl.mono fun x hx => hx.2) (Nat.le_refl _) l1 (.inl rfl))
end Go.Zt
