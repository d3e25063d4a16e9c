/- What the law PoolNames needs of the text Fh. -/
import Derived.Test.YtjmahpemdghncaaPFg
import Derived.Test.YtjmahpemdghncaaPArg
set_option linter.unusedVariables false
set_option linter.unusedSimpArgs false
set_option maxRecDepth 100000
namespace Go.Zt
def fr16 (v : Int) : FrV := ⟨16, 16, List.replicate 256 v, 8, 8, List.replicate 64 v, 8, 8, List.replicate 64 v⟩
theorem fr16_len (v : Int) : (fr16 v).x0.length = 256 ∧ (fr16 v).x1.length = 64 ∧ (fr16 v).x2.length = 64 := ⟨by simp [fr16], by simp [fr16], by simp [fr16]⟩
theorem fr16_whole (v : Int) : WholeF (fr16 v) := by
  unfold WholeF
  rw [(fr16_len v).1, (fr16_len v).2.1, (fr16_len v).2.2]
  show WholeP 16 16 256 8 8 64 8 8 64
  decide
theorem FrV.eq_iff (a b : FrV) : (a.w0 = b.w0 ∧ a.h0 = b.h0 ∧ a.x0 = b.x0 ∧ a.w1 = b.w1 ∧ a.h1 = b.h1 ∧ a.x1 = b.x1 ∧ a.w2 = b.w2 ∧ a.h2 = b.h2 ∧ a.x2 = b.x2) ↔ a = b := by
  constructor
  · rintro ⟨q1, q2, q3, q4, q5, q6, q7, q8, q9⟩
    cases a; cases b
    simp only at q1 q2 q3 q4 q5 q6 q7 q8 q9
    subst q1 q2 q3 q4 q5 q6 q7 q8 q9
    rfl
  · rintro rfl
    exact ⟨rfl, rfl, rfl, rfl, rfl, rfl, rfl, rfl, rfl⟩
instance (a b : FrV) : Decidable (a = b) := decidable_of_iff _ (FrV.eq_iff a b)
theorem frame16_ok (lo : Nat) (v : Int) (M : Mem) (hlo : lo ≤ M.length) :
    Ac P T lo F.plane_Frame [.int .i64 16, .int .i64 16, .int .u8 v] M fun r => ∃ a0 a1 a2 c0 c1 c2 M', r = (.tuple ⟨[.agg ⟨[.int .i64 (fr16 v).w0, .int .i64 (fr16 v).h0, .slice (some a0) (fr16 v).x0.length c0, .int .i64 (fr16 v).w1, .int .i64 (fr16 v).h1, .slice (some a1) (fr16 v).x1.length c1, .int .i64 (fr16 v).w2, .int .i64 (fr16 v).h2, .slice (some a2) (fr16 v).x2.length c2]⟩, .int .i64 0]⟩, M') ∧ Pre M M' ∧
      Buf M M' a0 ((fr16 v).x0.map (Value.int .u8)) ∧ Buf M M' a1 ((fr16 v).x1.map (Value.int .u8)) ∧ Buf M M' a2 ((fr16 v).x2.map (Value.int .u8)) ∧ a0.block ≠ a1.block ∧ a0.block ≠ a2.block ∧ a1.block ≠ a2.block := by
  refine Ac.mono (frame_ok lo 16 16 v M hlo (by decide)) ?_
  rintro r ⟨a0, a1, a2, M', rfl, h⟩
  refine ⟨a0, a1, a2, 256, 64, 64, M', ?_, h⟩
  rw [(fr16_len v).1, (fr16_len v).2.1, (fr16_len v).2.2]
  rfl
theorem bufs_fr {S : Nat → Prop} {M M' : Mem} {a0 a1 a2 : Addr} {f : FrV} (b0 : Buf M M' a0 (f.x0.map (Value.int .u8))) (b1 : Buf M M' a1 (f.x1.map (Value.int .u8))) (b2 : Buf M M' a2 (f.x2.map (Value.int .u8))) (hS : ∀ b, M.length ≤ b → S b) : FrIs S M' (some a0) (some a1) (some a2) f :=
  ⟨fun a ha => by injection ha with ha; subst ha; exact hS _ b0.new, fun a ha => by injection ha with ha; subst ha; exact hS _ b1.new, fun a ha => by injection ha with ha; subst ha; exact hS _ b2.new, b0.rdI, b1.rdI, b2.rdI⟩
section
variable (lo : Nat)
theorem usual_ok (M : Mem) (hlo : lo ≤ M.length) : Ac P T lo F.zoetropelaw26_usual [] M fun r => ∃ a0 a1 a2 c0 c1 c2 As cs M', r = (.tuple ⟨[.agg ⟨[.int .i64 (fr16 7).w0, .int .i64 (fr16 7).h0, .slice (some a0) (fr16 7).x0.length c0, .int .i64 (fr16 7).w1, .int .i64 (fr16 7).h1, .slice (some a1) (fr16 7).x1.length c1, .int .i64 (fr16 7).w2, .int .i64 (fr16 7).h2, .slice (some a2) (fr16 7).x2.length c2]⟩, .agg ⟨[.slice As defSet.length cs]⟩]⟩, M') ∧ Pre M M' ∧
    Buf M M' a0 ((fr16 7).x0.map (Value.int .u8)) ∧ Buf M M' a1 ((fr16 7).x1.map (Value.int .u8)) ∧ Buf M M' a2 ((fr16 7).x2.map (Value.int .u8)) ∧ SetIs (fun b => M.length ≤ b) M' As defSet := by
  refine Ac.of (Evp.of_eq (fun k => zoetropelaw26_usual.entry k ..) ?_)
  refine Evp.ob (frame16_ok lo 7 M hlo) ?_
  rintro _ ⟨a0, a1, a2, c0, c1, c2, M1, rfl, p1, b0, b1, b2, _⟩
  simp only [ret_int, ret_bool, ret_flt, ret_slc, ret_str, ret_ptr, ret_agg, ret_tup, ob_some, bb_true, bb_false, List.getElem?_cons_zero, List.getElem?_cons_succ, List.length_cons, List.length_nil, Nat.reduceAdd, Nat.reduceLT]
  have l1 := p1.len
  refine Evp.ob (default_ok _ M1 (by omega)) ?_
  rintro _ ⟨As, cs, M2, rfl, p2, hs⟩
  simp only [ret_int, ret_bool, ret_flt, ret_slc, ret_str, ret_ptr, ret_agg, ret_tup, ob_some, bb_true, bb_false, List.getElem?_cons_zero, List.getElem?_cons_succ, List.length_cons, List.length_nil, Nat.reduceAdd, Nat.reduceLT]
  exact Evp.ret (Run.ret ⟨a0, a1, a2, c0, c1, c2, As, cs, M2, rfl, p1.trans p2, b0.pre p2, b1.pre p2, b2.pre p2, hs.mono fun b h => by omega⟩)
theorem alike_ok (A0 A1 A2 B0 B1 B2 : Option Addr) (c0 c1 c2 d0 d1 d2 : Nat) (f g : FrV) (S S' : Nat → Prop) (M : Mem) (hf : FrIs S M A0 A1 A2 f) (hg : FrIs S' M B0 B1 B2 g) (hw : WholeF f) :
    Ac P T lo F.zoetropelaw26_alike [.agg ⟨[.int .i64 f.w0, .int .i64 f.h0, .slice A0 f.x0.length c0, .int .i64 f.w1, .int .i64 f.h1, .slice A1 f.x1.length c1, .int .i64 f.w2, .int .i64 f.h2, .slice A2 f.x2.length c2]⟩, .agg ⟨[.int .i64 g.w0, .int .i64 g.h0, .slice B0 g.x0.length d0, .int .i64 g.w1, .int .i64 g.h1, .slice B1 g.x1.length d1, .int .i64 g.w2, .int .i64 g.h2, .slice B2 g.x2.length d2]⟩] M fun r => r = (.bool (decide (f = g)), M) := by
  obtain ⟨l0, l1, l2⟩ := hw.len
  have ne : ∀ p : Prop, [Decidable p] → (f = g → p) → decide p = false → (Value.bool false, M) = (Value.bool (decide (f = g)), M) := fun p _ h1 h2 => by
    rw [decide_eq_false (fun e => of_decide_eq_false h2 (h1 e))]
  refine Ac.of (Evp.of_eq (fun k => zoetropelaw26_alike.entry k ..) ?_)
  refine Evp.ob (same_ok lo _ _ _ _ _ _ _ _ _ _ M hf.r0 hg.r0 (by omega)) ?_
  rintro _ rfl
  simp only [ret_int, ret_bool, ret_flt, ret_slc, ret_str, ret_ptr, ret_agg, ret_tup, ob_some, bb_true, bb_false, List.getElem?_cons_zero, List.getElem?_cons_succ, List.length_cons, List.length_nil, Nat.reduceAdd, Nat.reduceLT]
  refine Evp.bb (fun h0 => ?_) fun h0 => Evp.ret (Run.ret (ne _ (fun e => by rw [e]; exact ⟨rfl, rfl, rfl⟩) h0))
  refine Evp.ob (same_ok lo _ _ _ _ _ _ _ _ _ _ M hf.r1 hg.r1 (by omega)) ?_
  rintro _ rfl
  simp only [ret_int, ret_bool, ret_flt, ret_slc, ret_str, ret_ptr, ret_agg, ret_tup, ob_some, bb_true, bb_false, List.getElem?_cons_zero, List.getElem?_cons_succ, List.length_cons, List.length_nil, Nat.reduceAdd, Nat.reduceLT]
  refine Evp.bb (fun h1 => ?_) fun h1 => Evp.ret (Run.ret (ne _ (fun e => by rw [e]; exact ⟨rfl, rfl, rfl⟩) h1))
  refine Evp.ob (same_ok lo _ _ _ _ _ _ _ _ _ _ M hf.r2 hg.r2 (by omega)) ?_
  rintro _ rfl
  simp only [ret_int, ret_bool, ret_flt, ret_slc, ret_str, ret_ptr, ret_agg, ret_tup, ob_some, bb_true, bb_false, List.getElem?_cons_zero, List.getElem?_cons_succ, List.length_cons, List.length_nil, Nat.reduceAdd, Nat.reduceLT]
  refine Evp.ret (Run.ret ?_)
  congr 2
  refine decide_eq_decide.2 ⟨fun h2 => ?_, fun e => by rw [e]; exact ⟨rfl, rfl, rfl⟩⟩
  obtain ⟨q1, q2, q3⟩ := of_decide_eq_true h0
  obtain ⟨q4, q5, q6⟩ := of_decide_eq_true h1
  obtain ⟨q7, q8, q9⟩ := h2
  exact (FrV.eq_iff f g).1 ⟨q1, q2, q3, q4, q5, q6, q7, q8, q9⟩
theorem awake_ok (M : Mem) (hlo : lo ≤ M.length) : Ac P T lo F.zoetropelaw26_awake [] M fun r => ∃ M', r = (.bool true, M') ∧ Pre M M' := by
  refine Ac.of (Evp.of_eq (fun k => zoetropelaw26_awake.entry k ..) ?_)
  refine Evp.ob (pnew_ok lo (fun b => M.length < b) M) ?_
  rintro _ ⟨M1, rfl, p1, l1, hp⟩
  simp only [ret_int, ret_bool, ret_flt, ret_slc, ret_str, ret_ptr, ret_agg, ret_tup, ob_some, bb_true, bb_false, List.getElem?_cons_zero, List.getElem?_cons_succ, List.length_cons, List.length_nil, Nat.reduceAdd, Nat.reduceLT]
  refine Evp.ob (usual_ok lo M1 (by omega)) ?_
  rintro _ ⟨a0, a1, a2, c0, c1, c2, As, cs, M2, rfl, p2, b0, b1, b2, hs⟩
  simp only [ret_int, ret_bool, ret_flt, ret_slc, ret_str, ret_ptr, ret_agg, ret_tup, ob_some, bb_true, bb_false, List.getElem?_cons_zero, List.getElem?_cons_succ, List.length_cons, List.length_nil, Nat.reduceAdd, Nat.reduceLT]
  have l2 := p2.len
  refine Evp.ff rfl (Evp.neb (fun h => absurd (by rw [(fr16_len 7).1]; rfl) h) fun _ => ?_)
  refine Evp.ob (whole_ok ..) ?_
  rintro _ rfl
  simp only [ret_int, ret_bool, ret_flt, ret_slc, ret_str, ret_ptr, ret_agg, ret_tup, ob_some, bb_true, bb_false, List.getElem?_cons_zero, List.getElem?_cons_succ, List.length_cons, List.length_nil, Nat.reduceAdd, Nat.reduceLT]
  refine Evp.neb (fun h => absurd (by unfold wholeS; exact if_pos (fr16_whole 7)) h) fun _ => ?_
  have hp2 := hp.pre p2
  refine Evp.ob (pframe_none lo _ _ _ M2 hp2 0 (by decide) rfl) ?_
  rintro _ rfl
  simp only [ret_int, ret_bool, ret_flt, ret_slc, ret_str, ret_ptr, ret_agg, ret_tup, ob_some, bb_true, bb_false, List.getElem?_cons_zero, List.getElem?_cons_succ, List.length_cons, List.length_nil, Nat.reduceAdd, Nat.reduceLT]
  have hfr : FrIs (fun b => M1.length ≤ b) M2 (some a0) (some a1) (some a2) (fr16 7) := bufs_fr b0 b1 b2 fun b h => h
  refine Evp.ob (put_ok lo _ _ _ M2 _ _ _ As c0 c1 c2 cs (fr16 7) defSet 5 _ hp2 (by omega) _ hfr hs ⟨by decide, by decide, fr16_whole 7, defSet_ok⟩ hlo) ?_
  rintro _ ⟨M3, rfl, kb, l3, hp3⟩
  simp only [ret_int, ret_bool, ret_flt, ret_slc, ret_str, ret_ptr, ret_agg, ret_tup, ob_some, bb_true, bb_false, List.getElem?_cons_zero, List.getElem?_cons_succ, List.length_cons, List.length_nil, Nat.reduceAdd, Nat.reduceLT]
  have hp0 : Pre M M3 := kb.pre (p1.trans p2) (Nat.le_refl _)
  refine Evp.ob (pframe_some lo _ _ _ M3 hp3 2 (by decide) (fr16 7) defSet rfl (by omega)) ?_
  rintro _ ⟨e0, e1, e2, d0, d1, d2, M4, rfl, p4, g0, g1, g2, _⟩
  simp only [ret_int, ret_bool, ret_flt, ret_slc, ret_str, ret_ptr, ret_agg, ret_tup, ob_some, bb_true, bb_false, List.getElem?_cons_zero, List.getElem?_cons_succ, List.length_cons, List.length_nil, Nat.reduceAdd, Nat.reduceLT]
  have hp4 := hp3.pre p4
  refine Evp.ob (pframe_none lo _ _ _ M4 hp4 1 (by decide) rfl) ?_
  rintro _ rfl
  simp only [ret_int, ret_bool, ret_flt, ret_slc, ret_str, ret_ptr, ret_agg, ret_tup, ob_some, bb_true, bb_false, List.getElem?_cons_zero, List.getElem?_cons_succ, List.length_cons, List.length_nil, Nat.reduceAdd, Nat.reduceLT]
  refine Evp.tt rfl (Evp.tt rfl (Evp.tt rfl (Evp.tt rfl ?_)))
  refine Evp.ob (has_ok lo _ _ _ M4 hp4) ?_
  rintro _ rfl
  simp only [ret_int, ret_bool, ret_flt, ret_slc, ret_str, ret_ptr, ret_agg, ret_tup, ob_some, bb_true, bb_false, List.getElem?_cons_zero, List.getElem?_cons_succ, List.length_cons, List.length_nil, Nat.reduceAdd, Nat.reduceLT]
  refine Evp.tt rfl ?_
  have hf4 : FrIs (fun b => M1.length ≤ b) M4 (some a0) (some a1) (some a2) (fr16 7) := (hfr.keepS (kb.keepS (by omega))).keepS p4.keepS
  refine Evp.ob (alike_ok lo _ _ _ _ _ _ _ _ _ _ _ _ (fr16 7) (fr16 7) (fun _ => True) _ M4 (bufs_fr g0 g1 g2 fun _ _ => trivial) hf4 (fr16_whole 7)) ?_
  rintro _ rfl
  simp only [ret_int, ret_bool, ret_flt, ret_slc, ret_str, ret_ptr, ret_agg, ret_tup, ob_some, bb_true, bb_false, List.getElem?_cons_zero, List.getElem?_cons_succ, List.length_cons, List.length_nil, Nat.reduceAdd, Nat.reduceLT]
  exact Evp.ret (Run.ret ⟨M4, by simp, hp0.trans p4⟩)
theorem PoolIs.congr {S : Nat → Prop} {M : Mem} {b : Nat} {sl sl' : Nat → Option SlotV} (h : PoolIs S M b sl) (e : ∀ n, n < 8 → sl n = sl' n) : PoolIs S M b sl' := by
  obtain ⟨R, h1, h2⟩ := h
  exact ⟨R, h1, fun n hn => by rw [← e n hn]; exact h2 n hn⟩
end
end Go.Zt
