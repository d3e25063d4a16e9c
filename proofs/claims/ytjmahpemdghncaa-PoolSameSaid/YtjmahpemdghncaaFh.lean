/- PoolLast: a slot has what was put into it last. -/
import Derived.Test.YtjmahpemdghncaaFg
import Derived.Test.YtjmahpemdghncaaArg
set_option linter.unusedVariables false
set_option linter.unusedSimpArgs false
set_option maxRecDepth 100000
namespace Go.Zt
def fr16 (v : Int) : FrV := ⟨16, 16, List.replicate 256 v, 8, 8, List.replicate 64 v, 8, 8, List.replicate 64 v⟩
theorem fr16_len (v : Int) : (fr16 v).x0.length = 256 ∧ (fr16 v).x1.length = 64 ∧ (fr16 v).x2.length = 64 := ⟨by simp [fr16], by simp [fr16], by simp [fr16]⟩
theorem fr16_whole (v : Int) : WholeF (fr16 v) := by
  unfold WholeF
  rw [(fr16_len v).1, (fr16_len v).2.1, (fr16_len v).2.2]
  show WholeP 16 16 256 8 8 64 8 8 64
  decide
theorem FrV.eq_iff (a b : FrV) : (a.w0 = b.w0 ∧ a.h0 = b.h0 ∧ a.x0 = b.x0 ∧ a.w1 = b.w1 ∧ a.h1 = b.h1 ∧ a.x1 = b.x1 ∧ a.w2 = b.w2 ∧ a.h2 = b.h2 ∧ a.x2 = b.x2) ↔ a = b := by
  constructor
  · rintro ⟨q1, q2, q3, q4, q5, q6, q7, q8, q9⟩
    cases a; cases b
    simp only at q1 q2 q3 q4 q5 q6 q7 q8 q9
    subst q1 q2 q3 q4 q5 q6 q7 q8 q9
    rfl
  · rintro rfl
    exact ⟨rfl, rfl, rfl, rfl, rfl, rfl, rfl, rfl, rfl⟩
instance (a b : FrV) : Decidable (a = b) := decidable_of_iff _ (FrV.eq_iff a b)
theorem frame16_ok (lo : Nat) (v : Int) (M : Mem) (hlo : lo ≤ M.length) :
    Ac P T lo F.plane_Frame [.int .i64 16, .int .i64 16, .int .u8 v] M fun r => ∃ a0 a1 a2 c0 c1 c2 M', r = (.tuple ⟨[.agg ⟨[.int .i64 (fr16 v).w0, .int .i64 (fr16 v).h0, .slice (some a0) (fr16 v).x0.length c0, .int .i64 (fr16 v).w1, .int .i64 (fr16 v).h1, .slice (some a1) (fr16 v).x1.length c1, .int .i64 (fr16 v).w2, .int .i64 (fr16 v).h2, .slice (some a2) (fr16 v).x2.length c2]⟩, .int .i64 0]⟩, M') ∧ Pre M M' ∧
      Buf M M' a0 ((fr16 v).x0.map (Value.int .u8)) ∧ Buf M M' a1 ((fr16 v).x1.map (Value.int .u8)) ∧ Buf M M' a2 ((fr16 v).x2.map (Value.int .u8)) ∧ a0.block ≠ a1.block ∧ a0.block ≠ a2.block ∧ a1.block ≠ a2.block := by
  refine Ac.mono (frame_ok lo 16 16 v M hlo (by decide)) ?_
  rintro r ⟨a0, a1, a2, M', rfl, h⟩
  refine ⟨a0, a1, a2, 256, 64, 64, M', ?_, h⟩
  rw [(fr16_len v).1, (fr16_len v).2.1, (fr16_len v).2.2]
  rfl
theorem bufs_fr {S : Nat → Prop} {M M' : Mem} {a0 a1 a2 : Addr} {f : FrV} (b0 : Buf M M' a0 (f.x0.map (Value.int .u8))) (b1 : Buf M M' a1 (f.x1.map (Value.int .u8))) (b2 : Buf M M' a2 (f.x2.map (Value.int .u8))) (hS : ∀ b, M.length ≤ b → S b) : FrIs S M' (some a0) (some a1) (some a2) f :=
  ⟨fun a ha => by injection ha with ha; subst ha; exact hS _ b0.new, fun a ha => by injection ha with ha; subst ha; exact hS _ b1.new, fun a ha => by injection ha with ha; subst ha; exact hS _ b2.new, b0.rdI, b1.rdI, b2.rdI⟩
section
variable (lo : Nat)
theorem usual_ok (M : Mem) (hlo : lo ≤ M.length) : Ac P T lo F.zoetropelaw26_usual [] M fun r => ∃ a0 a1 a2 c0 c1 c2 As cs M', r = (.tuple ⟨[.agg ⟨[.int .i64 (fr16 7).w0, .int .i64 (fr16 7).h0, .slice (some a0) (fr16 7).x0.length c0, .int .i64 (fr16 7).w1, .int .i64 (fr16 7).h1, .slice (some a1) (fr16 7).x1.length c1, .int .i64 (fr16 7).w2, .int .i64 (fr16 7).h2, .slice (some a2) (fr16 7).x2.length c2]⟩, .agg ⟨[.slice As defSet.length cs]⟩]⟩, M') ∧ Pre M M' ∧
    Buf M M' a0 ((fr16 7).x0.map (Value.int .u8)) ∧ Buf M M' a1 ((fr16 7).x1.map (Value.int .u8)) ∧ Buf M M' a2 ((fr16 7).x2.map (Value.int .u8)) ∧ SetIs (fun b => M.length ≤ b) M' As defSet := by
  refine Ac.of (Evp.of_eq (fun k => zoetropelaw26_usual.entry k ..) ?_)
  refine Evp.ob (frame16_ok lo 7 M hlo) ?_
  rintro _ ⟨a0, a1, a2, c0, c1, c2, M1, rfl, p1, b0, b1, b2, _⟩
  simp only [ret_int, ret_bool, ret_flt, ret_slc, ret_str, ret_ptr, ret_agg, ret_tup, ob_some, bb_true, bb_false, List.getElem?_cons_zero, List.getElem?_cons_succ, List.length_cons, List.length_nil, Nat.reduceAdd, Nat.reduceLT]
  have l1 := p1.len
  refine Evp.ob (default_ok _ M1 (by omega)) ?_
  rintro _ ⟨As, cs, M2, rfl, p2, hs⟩
  simp only [ret_int, ret_bool, ret_flt, ret_slc, ret_str, ret_ptr, ret_agg, ret_tup, ob_some, bb_true, bb_false, List.getElem?_cons_zero, List.getElem?_cons_succ, List.length_cons, List.length_nil, Nat.reduceAdd, Nat.reduceLT]
  exact Evp.ret (Run.ret ⟨a0, a1, a2, c0, c1, c2, As, cs, M2, rfl, p1.trans p2, b0.pre p2, b1.pre p2, b2.pre p2, hs.mono fun b h => by omega⟩)
theorem alike_ok (A0 A1 A2 B0 B1 B2 : Option Addr) (c0 c1 c2 d0 d1 d2 : Nat) (f g : FrV) (S S' : Nat → Prop) (M : Mem) (hf : FrIs S M A0 A1 A2 f) (hg : FrIs S' M B0 B1 B2 g) (hw : WholeF f) :
    Ac P T lo F.zoetropelaw26_alike [.agg ⟨[.int .i64 f.w0, .int .i64 f.h0, .slice A0 f.x0.length c0, .int .i64 f.w1, .int .i64 f.h1, .slice A1 f.x1.length c1, .int .i64 f.w2, .int .i64 f.h2, .slice A2 f.x2.length c2]⟩, .agg ⟨[.int .i64 g.w0, .int .i64 g.h0, .slice B0 g.x0.length d0, .int .i64 g.w1, .int .i64 g.h1, .slice B1 g.x1.length d1, .int .i64 g.w2, .int .i64 g.h2, .slice B2 g.x2.length d2]⟩] M fun r => r = (.bool (decide (f = g)), M) := by
  obtain ⟨l0, l1, l2⟩ := hw.len
  have ne : ∀ p : Prop, [Decidable p] → (f = g → p) → decide p = false → (Value.bool false, M) = (Value.bool (decide (f = g)), M) := fun p _ h1 h2 => by
    rw [decide_eq_false (fun e => of_decide_eq_false h2 (h1 e))]
  refine Ac.of (Evp.of_eq (fun k => zoetropelaw26_alike.entry k ..) ?_)
  refine Evp.ob (same_ok lo _ _ _ _ _ _ _ _ _ _ M hf.r0 hg.r0 (by omega)) ?_
  rintro _ rfl
  simp only [ret_int, ret_bool, ret_flt, ret_slc, ret_str, ret_ptr, ret_agg, ret_tup, ob_some, bb_true, bb_false, List.getElem?_cons_zero, List.getElem?_cons_succ, List.length_cons, List.length_nil, Nat.reduceAdd, Nat.reduceLT]
  refine Evp.bb (fun h0 => ?_) fun h0 => Evp.ret (Run.ret (ne _ (fun e => by rw [e]; exact ⟨rfl, rfl, rfl⟩) h0))
  refine Evp.ob (same_ok lo _ _ _ _ _ _ _ _ _ _ M hf.r1 hg.r1 (by omega)) ?_
  rintro _ rfl
  simp only [ret_int, ret_bool, ret_flt, ret_slc, ret_str, ret_ptr, ret_agg, ret_tup, ob_some, bb_true, bb_false, List.getElem?_cons_zero, List.getElem?_cons_succ, List.length_cons, List.length_nil, Nat.reduceAdd, Nat.reduceLT]
  refine Evp.bb (fun h1 => ?_) fun h1 => Evp.ret (Run.ret (ne _ (fun e => by rw [e]; exact ⟨rfl, rfl, rfl⟩) h1))
  refine Evp.ob (same_ok lo _ _ _ _ _ _ _ _ _ _ M hf.r2 hg.r2 (by omega)) ?_
  rintro _ rfl
  simp only [ret_int, ret_bool, ret_flt, ret_slc, ret_str, ret_ptr, ret_agg, ret_tup, ob_some, bb_true, bb_false, List.getElem?_cons_zero, List.getElem?_cons_succ, List.length_cons, List.length_nil, Nat.reduceAdd, Nat.reduceLT]
  refine Evp.ret (Run.ret ?_)
  congr 2
  refine decide_eq_decide.2 ⟨fun h2 => ?_, fun e => by rw [e]; exact ⟨rfl, rfl, rfl⟩⟩
  obtain ⟨q1, q2, q3⟩ := of_decide_eq_true h0
  obtain ⟨q4, q5, q6⟩ := of_decide_eq_true h1
  obtain ⟨q7, q8, q9⟩ := h2
  exact (FrV.eq_iff f g).1 ⟨q1, q2, q3, q4, q5, q6, q7, q8, q9⟩
theorem awake_ok (M : Mem) (hlo : lo ≤ M.length) : Ac P T lo F.zoetropelaw26_awake [] M fun r => ∃ M', r = (.bool true, M') ∧ Pre M M' := by
  refine Ac.of (Evp.of_eq (fun k => zoetropelaw26_awake.entry k ..) ?_)
  refine Evp.ob (pnew_ok lo (fun b => M.length < b) M) ?_
  rintro _ ⟨M1, rfl, p1, l1, hp⟩
  simp only [ret_int, ret_bool, ret_flt, ret_slc, ret_str, ret_ptr, ret_agg, ret_tup, ob_some, bb_true, bb_false, List.getElem?_cons_zero, List.getElem?_cons_succ, List.length_cons, List.length_nil, Nat.reduceAdd, Nat.reduceLT]
  refine Evp.ob (usual_ok lo M1 (by omega)) ?_
  rintro _ ⟨a0, a1, a2, c0, c1, c2, As, cs, M2, rfl, p2, b0, b1, b2, hs⟩
  simp only [ret_int, ret_bool, ret_flt, ret_slc, ret_str, ret_ptr, ret_agg, ret_tup, ob_some, bb_true, bb_false, List.getElem?_cons_zero, List.getElem?_cons_succ, List.length_cons, List.length_nil, Nat.reduceAdd, Nat.reduceLT]
  have l2 := p2.len
  refine Evp.ff rfl (Evp.neb (fun h => absurd (by rw [(fr16_len 7).1]; rfl) h) fun _ => ?_)
  refine Evp.ob (whole_ok ..) ?_
  rintro _ rfl
  simp only [ret_int, ret_bool, ret_flt, ret_slc, ret_str, ret_ptr, ret_agg, ret_tup, ob_some, bb_true, bb_false, List.getElem?_cons_zero, List.getElem?_cons_succ, List.length_cons, List.length_nil, Nat.reduceAdd, Nat.reduceLT]
  refine Evp.neb (fun h => absurd (by unfold wholeS; exact if_pos (fr16_whole 7)) h) fun _ => ?_
  have hp2 := hp.pre p2
  refine Evp.ob (pframe_none lo _ _ _ M2 hp2 0 (by decide) rfl) ?_
  rintro _ rfl
  simp only [ret_int, ret_bool, ret_flt, ret_slc, ret_str, ret_ptr, ret_agg, ret_tup, ob_some, bb_true, bb_false, List.getElem?_cons_zero, List.getElem?_cons_succ, List.length_cons, List.length_nil, Nat.reduceAdd, Nat.reduceLT]
  have hfr : FrIs (fun b => M1.length ≤ b) M2 (some a0) (some a1) (some a2) (fr16 7) := bufs_fr b0 b1 b2 fun b h => h
  refine Evp.ob (put_ok lo _ _ _ M2 _ _ _ As c0 c1 c2 cs (fr16 7) defSet 5 _ hp2 (by omega) _ hfr hs ⟨by decide, by decide, fr16_whole 7, defSet_ok⟩ hlo) ?_
  rintro _ ⟨M3, rfl, kb, l3, hp3⟩
  simp only [ret_int, ret_bool, ret_flt, ret_slc, ret_str, ret_ptr, ret_agg, ret_tup, ob_some, bb_true, bb_false, List.getElem?_cons_zero, List.getElem?_cons_succ, List.length_cons, List.length_nil, Nat.reduceAdd, Nat.reduceLT]
  have hp0 : Pre M M3 := kb.pre (p1.trans p2) (Nat.le_refl _)
  refine Evp.ob (pframe_some lo _ _ _ M3 hp3 2 (by decide) (fr16 7) defSet rfl (by omega)) ?_
  rintro _ ⟨e0, e1, e2, d0, d1, d2, M4, rfl, p4, g0, g1, g2, _⟩
  simp only [ret_int, ret_bool, ret_flt, ret_slc, ret_str, ret_ptr, ret_agg, ret_tup, ob_some, bb_true, bb_false, List.getElem?_cons_zero, List.getElem?_cons_succ, List.length_cons, List.length_nil, Nat.reduceAdd, Nat.reduceLT]
  have hp4 := hp3.pre p4
  refine Evp.ob (pframe_none lo _ _ _ M4 hp4 1 (by decide) rfl) ?_
  rintro _ rfl
  simp only [ret_int, ret_bool, ret_flt, ret_slc, ret_str, ret_ptr, ret_agg, ret_tup, ob_some, bb_true, bb_false, List.getElem?_cons_zero, List.getElem?_cons_succ, List.length_cons, List.length_nil, Nat.reduceAdd, Nat.reduceLT]
  refine Evp.tt rfl (Evp.tt rfl (Evp.tt rfl (Evp.tt rfl ?_)))
  refine Evp.ob (has_ok lo _ _ _ M4 hp4) ?_
  rintro _ rfl
  simp only [ret_int, ret_bool, ret_flt, ret_slc, ret_str, ret_ptr, ret_agg, ret_tup, ob_some, bb_true, bb_false, List.getElem?_cons_zero, List.getElem?_cons_succ, List.length_cons, List.length_nil, Nat.reduceAdd, Nat.reduceLT]
  refine Evp.tt rfl ?_
  have hf4 : FrIs (fun b => M1.length ≤ b) M4 (some a0) (some a1) (some a2) (fr16 7) := (hfr.keepS (kb.keepS (by omega))).keepS p4.keepS
  refine Evp.ob (alike_ok lo _ _ _ _ _ _ _ _ _ _ _ _ (fr16 7) (fr16 7) (fun _ => True) _ M4 (bufs_fr g0 g1 g2 fun _ _ => trivial) hf4 (fr16_whole 7)) ?_
  rintro _ rfl
  simp only [ret_int, ret_bool, ret_flt, ret_slc, ret_str, ret_ptr, ret_agg, ret_tup, ob_some, bb_true, bb_false, List.getElem?_cons_zero, List.getElem?_cons_succ, List.length_cons, List.length_nil, Nat.reduceAdd, Nat.reduceLT]
  exact Evp.ret (Run.ret ⟨M4, by simp, hp0.trans p4⟩)
/-! ### The law -/
def bookL (g : Nat → Int) : List Value := (List.range 8).map fun j => Value.int .i64 (g j)
theorem bookL_get (g : Nat → Int) (k : Nat) (hk : k < 8) : ((bookL g)[0 + k + 0]?).bind (Value.int? .i64) = some (g k) := by
  unfold bookL
  rw [Nat.zero_add, Nat.add_zero, List.getElem?_map, List.getElem?_range hk]
  simp [Value.int?]
theorem bookL_len (g : Nat → Int) : (bookL g).length = 8 := by simp [bookL]
theorem bookL_set (g : Nat → Int) (k : Nat) (v : Int) : setL (bookL g) (0 + k) [.int .i64 v] = bookL fun j => if j = k then v else g j := by
  rw [setL_one, Nat.zero_add]
  unfold bookL
  apply List.ext_getElem
  · simp
  · intro j h1 h2
    rw [List.getElem_set]
    simp only [List.getElem_map, List.getElem_range]
    by_cases e : k = j
    · subst e; simp
    · rw [if_neg e, if_neg (fun h => e h.symm)]
def slotOfG (g : Nat → Int) : Nat → Option SlotV := fun k => if g k > 0 then some (fr16 (IntKind.u8.wrap (g k)), defSet) else none
theorem slotOfG_put (g : Nat → Int) (r v : Int) (hv : v > 0) : putS (slotOfG g) r (fr16 (IntKind.u8.wrap v), defSet) = slotOfG fun j => if bitS r j = true then v else g j := by
  funext k
  unfold putS slotOfG
  by_cases h : bitS r k = true
  · simp only [h, if_true, hv]
  · simp [h]
theorem PoolIs.congr {S : Nat → Prop} {M : Mem} {b : Nat} {sl sl' : Nat → Option SlotV} (h : PoolIs S M b sl) (e : ∀ n, n < 8 → sl n = sl' n) : PoolIs S M b sl' := by
  obtain ⟨R, h1, h2⟩ := h
  exact ⟨R, h1, fun n hn => by rw [← e n hn]; exact h2 n hn⟩
section
variable (A1 : Option Addr) (n2 c3 b : Nat) (i : Nat) (r : Int)
/-- Behind a Put: each slot is looked at. -/
theorem last_inner (M0 : Mem) (g : Nat → Int) (hi : i < 40) (hlo : lo ≤ M0.length) (hM0 : M0.length ≤ b) {Q : Value × Mem → Prop}
    (hnext : ∀ M' : Mem, Pre M0 M' → PoolIs (fun x => b < x) M' b (slotOfG fun j => if bitS r j = true then (i : Int) + 1 else g j) → Run P T lo F.zoetropelaw26_PoolLast (zoetropelaw26_PoolLast.c500 A1 n2 c3 (some ⟨b, 0, none⟩) ((IntKind.i64.wrap ((i : Int) + 1))) (bookL fun j => if j < 8 ∧ bitS r j = true then (i : Int) + 1 else g j) M') Q) :
    ∀ (d k : Nat) (M : Mem), 8 - k = d → k ≤ 8 → Pre M0 M → PoolIs (fun x => b < x) M b (slotOfG fun j => if bitS r j = true then (i : Int) + 1 else g j) →
      Run P T lo F.zoetropelaw26_PoolLast (zoetropelaw26_PoolLast.c1025268 A1 n2 c3 (some ⟨b, 0, none⟩) (i : Int) r (hasN (slotOfG fun j => if bitS r j = true then (i : Int) + 1 else g j) k) (k : Int) (bookL fun j => if j < k ∧ bitS r j = true then (i : Int) + 1 else g j) M) Q := by
  intro d
  obtain ⟨G, hG⟩ : ∃ G : Nat → Int, G = fun j => if bitS r j = true then (i : Int) + 1 else g j := ⟨_, rfl⟩
  rw [← hG] at hnext ⊢
  induction d with
  | zero =>
    intro k M hd hk hp hpool
    obtain rfl : k = 8 := by omega
    refine Run.cut (Evp.of_eq (fun k => zoetropelaw26_PoolLast.p1025268 k ..) ?_)
    refine Evp.dec (fun h => absurd h (by omega)) fun _ => ?_
    refine Evp.ob (has_ok lo _ b _ M hpool) ?_
    rintro _ rfl
    simp only [ret_int, ret_bool, ret_flt, ret_slc, ret_str, ret_ptr, ret_agg, ret_tup, ob_some, bb_true, bb_false, List.getElem?_cons_zero, List.getElem?_cons_succ, List.length_cons, List.length_nil, Nat.reduceAdd, Nat.reduceLT]
    exact Evp.neb (fun h => absurd rfl h) fun _ => Evp.ret (hnext M hp hpool)
  | succ d ih =>
    intro k M hd hk hp hpool
    have hk8 : k < 8 := by omega
    have hhas := hasN_b (slotOfG G) k
    have hpw : (2 : Int) ^ k ≤ 128 := by
      have h1 : (2 : Nat) ^ k ≤ 2 ^ 7 := Nat.pow_le_pow_right (by decide) (by omega)
      have h2 : ((2 ^ k : Nat) : Int) = (2 : Int) ^ k := by simp
      omega
    have eG : G k = if bitS r k = true then (i : Int) + 1 else g k := by rw [hG]
    -- behind the book's turn
    have rest : Run P T lo F.zoetropelaw26_PoolLast (zoetropelaw26_PoolLast.c16404297 A1 n2 c3 (some ⟨b, 0, none⟩) (i : Int) r (hasN (slotOfG G) k) (k : Int) (bookL fun j => if j < k + 1 ∧ bitS r j = true then (i : Int) + 1 else g j) M) Q := by
      have gk : ((bookL fun j => if j < k + 1 ∧ bitS r j = true then (i : Int) + 1 else g j)[0 + k + 0]?).bind (Value.int? .i64) = some (G k) := by
        rw [bookL_get _ k hk8, eG]
        congr 1
        by_cases h : bitS r k = true
        · rw [if_pos ⟨by omega, h⟩, if_pos h]
        · rw [if_neg (fun e => h e.2), if_neg h]
      have last : Run P T lo F.zoetropelaw26_PoolLast (zoetropelaw26_PoolLast.c32808595 A1 n2 c3 (some ⟨b, 0, none⟩) (i : Int) r (hasN (slotOfG G) (k + 1)) (k : Int) (bookL fun j => if j < k + 1 ∧ bitS r j = true then (i : Int) + 1 else g j) M) Q := by
        refine Run.cut (Evp.of_eq (fun k => zoetropelaw26_PoolLast.p32808595 k ..) ?_)
        simp only [Int.toNat_natCast]
        by_cases hg : G k > 0
        · have hs : slotOfG G k = some (fr16 (IntKind.u8.wrap (G k)), defSet) := by unfold slotOfG; rw [if_pos hg]
          refine Evp.ob (pframe_some lo _ b _ M hpool k hk8 _ _ hs (by have := hp.len; omega)) ?_
          rintro _ ⟨e0, e1, e2, d0, d1, d2, M4, rfl, p4, g0, g1, g2, _⟩
          simp only [ret_int, ret_bool, ret_flt, ret_slc, ret_str, ret_ptr, ret_agg, ret_tup, ob_some, bb_true, bb_false, List.getElem?_cons_zero, List.getElem?_cons_succ, List.length_cons, List.length_nil, Nat.reduceAdd, Nat.reduceLT]
          refine Evp.pos (by omega) (Evp.some gk ?_)
          refine Evp.ff (by rw [decide_eq_true hg]; rfl) (Evp.tt rfl ?_)
          obtain ⟨z0, z1, z2⟩ := fr16_len (IntKind.u8.wrap (G k))
          refine Evp.neb (fun h => absurd (by rw [z2]; rfl) h) fun _ => ?_
          refine Evp.pos (by rw [z2]; decide) ?_
          have r2 := g2.rdI.ld (i := 63) (by rw [z2]; decide)
          obtain ⟨a, ha, _, hl⟩ := r2
          refine Evp.some ha (Evp.some (b := IntKind.u8.wrap (G k)) (by rw [hl]; simp [fr16, Value.int?]) ?_)
          refine Evp.pos (by omega) (Evp.some gk ?_)
          refine Evp.neb (fun h => absurd rfl h) fun _ => ?_
          refine Evp.pos (by rw [z0]; decide) ?_
          obtain ⟨a', ha', _, hl'⟩ := g0.rdI.ld (i := 0) (by rw [z0]; decide)
          rw [plus_zero] at hl'
          refine Evp.some ha' (Evp.some (b := IntKind.u8.wrap (G k)) (by rw [hl']; simp [fr16, Value.int?]) ?_)
          refine Evp.pos (by omega) (Evp.some gk ?_)
          refine Evp.neb (fun h => absurd rfl h) fun _ => ?_
          rw [w64 (x := (k : Int) + 1) (by omega)]
          exact Evp.ret (ih (k + 1) M4 (by omega) (by omega) (hp.trans p4) (hpool.pre p4))
        · have hs : slotOfG G k = none := by unfold slotOfG; rw [if_neg hg]
          refine Evp.ob (pframe_none lo _ b _ M hpool k hk8 hs) ?_
          rintro _ rfl
          simp only [ret_int, ret_bool, ret_flt, ret_slc, ret_str, ret_ptr, ret_agg, ret_tup, ob_some, bb_true, bb_false, List.getElem?_cons_zero, List.getElem?_cons_succ, List.length_cons, List.length_nil, Nat.reduceAdd, Nat.reduceLT]
          refine Evp.pos (by omega) (Evp.some gk ?_)
          refine Evp.ff (by rw [decide_eq_false hg]; rfl) (Evp.ff rfl ?_)
          rw [w64 (x := (k : Int) + 1) (by omega)]
          exact Evp.ret (ih (k + 1) M (by omega) (by omega) hp hpool)
      refine Run.cut (Evp.of_eq (fun k => zoetropelaw26_PoolLast.p16404297 k ..) ?_)
      simp only [Int.toNat_natCast]
      refine Evp.pos (by omega) (Evp.some gk ?_)
      have eh : hasN (slotOfG G) (k + 1) = if G k > 0 then hasN (slotOfG G) k + 2 ^ k else hasN (slotOfG G) k := by
        rw [hasN]
        by_cases hg : G k > 0
        · rw [if_pos hg]; unfold slotOfG; rw [if_pos hg]; rfl
        · rw [if_neg hg]; unfold slotOfG; rw [if_neg hg]; simp
      refine Evp.dec (fun hg => Evp.neg (by omega) ?_) fun hg => ?_
      · rw [shl_one k (by omega), w64 (by omega)]
        rw [if_pos hg] at eh
        rw [← eh]
        exact Evp.ret last
      · rw [if_neg hg] at eh
        rw [← eh]
        exact Evp.ret last
    refine Run.cut (Evp.of_eq (fun k => zoetropelaw26_PoolLast.p1025268 k ..) ?_)
    refine Evp.dec (fun _ => ?_) fun h => absurd h (by omega)
    refine Evp.neg (by omega) ?_
    simp only [Int.toNat_natCast]
    rw [bit_eq r k (by omega)]
    refine Evp.bb (fun hbit => ?_) fun hbit => ?_
    · refine Evp.pos (by omega) (Evp.pos (by rw [bookL_len]; omega) ?_)
      rw [bookL_set, w64 (x := (i : Int) + 1) (by omega)]
      have e : (fun j => if j = k then (i : Int) + 1 else if j < k ∧ bitS r j = true then (i : Int) + 1 else g j) = fun j => if j < k + 1 ∧ bitS r j = true then (i : Int) + 1 else g j := by
        funext j
        by_cases hj : j = k
        · subst hj; rw [if_pos rfl, if_pos ⟨by omega, hbit⟩]
        · rw [if_neg hj]
          by_cases h : j < k ∧ bitS r j = true
          · rw [if_pos h, if_pos ⟨by omega, h.2⟩]
          · rw [if_neg h, if_neg fun e => h ⟨by omega, e.2⟩]
      rw [e]
      exact Evp.ret rest
    · have e : (fun j => if j < k ∧ bitS r j = true then (i : Int) + 1 else g j) = fun j => if j < k + 1 ∧ bitS r j = true then (i : Int) + 1 else g j := by
        funext j
        by_cases hj : j = k
        · subst hj; rw [if_neg (by omega), if_neg fun e => by rw [hbit] at e; exact absurd e.2 (by decide)]
        · by_cases h : j < k ∧ bitS r j = true
          · rw [if_pos h, if_pos ⟨by omega, h.2⟩]
          · rw [if_neg h, if_neg fun e => h ⟨by omega, e.2⟩]
      rw [e]
      exact Evp.ret rest
theorem slotOfG_congr {g g' : Nat → Int} (h : ∀ j, j < 8 → g j = g' j) : ∀ j, j < 8 → slotOfG g j = slotOfG g' j := fun j hj => by unfold slotOfG; rw [h j hj]
theorem last_loop (M0 : Mem) (l : List Int) (hl : n2 = l.length) (hx : RdI M0 .i64 A1 l) (hlo : lo ≤ M0.length) (hb : M0.length ≤ b) (hn : l.length * 8 ≤ 140737488351232) : ∀ (d i : Nat) (M : Mem) (g : Nat → Int), l.length - i = d → i ≤ l.length → i ≤ 40 → Pre M0 M → PoolIs (fun x => b < x) M b (slotOfG g) →
    Run P T lo F.zoetropelaw26_PoolLast (zoetropelaw26_PoolLast.c500 A1 n2 c3 (some ⟨b, 0, none⟩) (i : Int) (bookL g) M) fun r => r.1 = .bool true := by
  subst hl
  intro d
  induction d with
  | zero =>
    intro i M g hd hi hi2 hp hpool
    refine Run.cut (Evp.of_eq (fun k => zoetropelaw26_PoolLast.p500 k ..) ?_)
    exact Evp.dec (fun h => absurd h (by omega)) fun _ => Evp.ret (Run.ret rfl)
  | succ d ih =>
    intro i M g hd hi hi2 hp hpool
    have l0 := hp.len
    have hin := hpool.in_
    refine Run.cut (Evp.of_eq (fun k => zoetropelaw26_PoolLast.p500 k ..) ?_)
    refine Evp.dec (fun _ => ?_) fun h => absurd h (by omega)
    refine Evp.dec (fun h40 => ?_) fun h => Evp.ret (Run.ret rfl)
    refine Evp.pos (by omega) ?_
    simp only [Int.toNat_natCast]
    refine Evp.ldI (hx.pre hp) (by omega) fun _ _ => ?_
    rw [w64 (x := (i : Int) + 1) (by omega)]
    refine Evp.ob (frame16_ok lo _ M (by omega)) ?_
    rintro _ ⟨a0, a1, a2, c0, c1, c2, M1, rfl, p1, b0, b1, b2, _⟩
    simp only [ret_int, ret_bool, ret_flt, ret_slc, ret_str, ret_ptr, ret_agg, ret_tup, ob_some, bb_true, bb_false, List.getElem?_cons_zero, List.getElem?_cons_succ, List.length_cons, List.length_nil, Nat.reduceAdd, Nat.reduceLT]
    refine Evp.ff rfl ?_
    have l1 := p1.len
    refine Evp.ob (default_ok lo M1 (by omega)) ?_
    rintro _ ⟨As, cs, M2, rfl, p2, hs⟩
    simp only [ret_int, ret_bool, ret_flt, ret_slc, ret_str, ret_ptr, ret_agg, ret_tup, ob_some, bb_true, bb_false, List.getElem?_cons_zero, List.getElem?_cons_succ, List.length_cons, List.length_nil, Nat.reduceAdd, Nat.reduceLT]
    have l2 := p2.len
    have hr := and_mask (x := l.getD i 0) 8 (by omega)
    rw [show ((2 : Int) ^ 8 - 1) = 255 from rfl, show ((2 : Int) ^ 8) = 256 from rfl] at hr
    rw [hr]
    refine Evp.ob (put_ok lo (fun x => b < x) b (slotOfG g) M2 (some a0) (some a1) (some a2) As c0 c1 c2 cs (fr16 (IntKind.u8.wrap ((i : Int) + 1))) defSet (l.getD i 0 % 256) _ (hpool.pre (p1.trans p2)) (by omega) (fun _ => True) (bufs_fr (b0.pre p2) (b1.pre p2) (b2.pre p2) fun _ _ => trivial) hs ⟨by omega, by omega, fr16_whole _, defSet_ok⟩ (by omega)) ?_
    rintro _ ⟨M3, rfl, kb, l3, hp3⟩
    simp only [ret_int, ret_bool, ret_flt, ret_slc, ret_str, ret_ptr, ret_agg, ret_tup, ob_some, bb_true, bb_false, List.getElem?_cons_zero, List.getElem?_cons_succ, List.length_cons, List.length_nil, Nat.reduceAdd, Nat.reduceLT]
    refine Evp.ff rfl ?_
    rw [slotOfG_put g _ _ (by omega)] at hp3
    refine Evp.ret (last_inner lo A1 l.length c3 b i (l.getD i 0 % 256) M0 g (by omega) hlo hb (fun M' q1 q2 => ?_) _ 0 M3 rfl (by omega) (kb.pre (hp.trans (p1.trans p2)) hb) (hp3.mono fun x h => by omega))
    rw [w64 (x := (i : Int) + 1) (by omega)]
    exact ih (i + 1) M' _ (by omega) (by omega) (by omega) q1 (q2.congr (slotOfG_congr fun j hj => by simp only [hj, true_and]))
end
theorem PoolLast_law (M : Mem) (vs : List Value) (hro : AllRo M) (hv : LaysArgs P M [22] vs) : Ac P T M.length F.zoetropelaw26_PoolLast vs M fun r => r.1 = .bool true := by
  obtain ⟨A, c, l, rfl, hc, hn, hx⟩ := Arg.PoolLast hv
  refine Ac.of (Evp.of_eq (fun k => zoetropelaw26_PoolLast.entry k ..) ?_)
  refine Evp.ob (awake_ok _ M (Nat.le_refl _)) ?_
  rintro _ ⟨M1, rfl, p1⟩
  simp only [ret_int, ret_bool, ret_flt, ret_slc, ret_str, ret_ptr, ret_agg, ret_tup, ob_some, bb_true, bb_false, List.getElem?_cons_zero, List.getElem?_cons_succ, List.length_cons, List.length_nil, Nat.reduceAdd, Nat.reduceLT]
  refine Evp.ff rfl ?_
  refine Evp.ob (pnew_ok _ (fun x => M1.length < x) M1) ?_
  rintro _ ⟨M2, rfl, p2, l2, hp⟩
  simp only [ret_int, ret_bool, ret_flt, ret_slc, ret_str, ret_ptr, ret_agg, ret_tup, ob_some, bb_true, bb_false, List.getElem?_cons_zero, List.getElem?_cons_succ, List.length_cons, List.length_nil, Nat.reduceAdd, Nat.reduceLT]
  have l1 := p1.len
  exact Evp.ret (last_loop _ A l.length c M1.length M l rfl hx.1 (Nat.le_refl _) l1 hn _ 0 M2 (fun _ => 0) rfl (by omega) (by omega) (p1.trans p2) hp)
end
end Go.Zt
