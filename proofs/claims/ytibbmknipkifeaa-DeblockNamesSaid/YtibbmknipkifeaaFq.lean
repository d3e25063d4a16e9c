/- Passes, whole; DeblockPasses. -/
import Derived.Test.YtibbmknipkifeaaFp
set_option linter.unusedVariables false
set_option linter.unusedSimpArgs false
set_option maxRecDepth 100000
namespace Go.Zt
/-- A list of its own, or nothing. -/
def OwnM (M0 M : Mem) (A : Option Addr) (xs : List Int) : Prop := xs = [] ∨ ∃ a, A = some a ∧ Buf M0 M a (xs.map (Value.int .u8))
theorem OwnM.rd {M0 M : Mem} {A : Option Addr} {xs : List Int} (h : OwnM M0 M A xs) : RdI M .u8 A xs := by
  rcases h with rfl | ⟨a, rfl, hb⟩
  · exact RdI.nil
  · exact hb.rdI
theorem OwnM.pre {M0 M M' : Mem} {A : Option Addr} {xs : List Int} (h : OwnM M0 M A xs) (hp : Pre M M') : OwnM M0 M' A xs := by
  rcases h with rfl | ⟨a, rfl, hb⟩
  · exact .inl rfl
  · exact .inr ⟨a, rfl, hb.pre hp⟩
theorem OwnM.floor {M0 M1 M : Mem} {A : Option Addr} {xs : List Int} (h : OwnM M1 M A xs) (hl : M0.length ≤ M1.length) : OwnM M0 M A xs := by
  rcases h with rfl | ⟨a, rfl, hb⟩
  · exact .inl rfl
  · exact .inr ⟨a, rfl, hb.floor hl⟩
theorem Grow.own {M0 M : Mem} {A : Option Addr} {xs : List Int} (h : Grow M0 M 1 A xs.length (xs.map (Value.int .u8))) : OwnM M0 M A xs := by
  by_cases h0 : xs = []
  · exact .inl h0
  · obtain ⟨a, h1, h2⟩ := h.buf (fun e => h0 (List.eq_nil_of_length_eq_zero e))
    exact .inr ⟨a, h1, h2⟩
theorem cloneAny_ok (lo : Nat) (A : Option Addr) (c : Nat) (xs : List Int) (M : Mem) (hr : RdI M .u8 A xs) (hn : xs.length ≤ 140737488351232) (hlo : lo ≤ M.length) :
    Ac P T lo F.slices_Clone__uint8_uint8 [.slice A xs.length c] M fun r => ∃ A' cc M', r = (.slice A' xs.length cc, M') ∧ Pre M M' ∧ xs.length ≤ cc ∧ OwnM M M' A' xs := by
  by_cases h0 : xs.length = 0
  · refine Ac.of (Evp.of_eq (fun k => slices_Clone__uint8_uint8.entry k ..) ?_)
    have hx : xs = [] := List.eq_nil_of_length_eq_zero h0
    subst hx
    refine Evp.bb (fun h => Evp.ret (Run.ret ⟨none, 0, M, rfl, Pre.refl _, Nat.le_refl _, .inl rfl⟩)) fun h => ?_
    have e1 : Mem.src (M ++ [⟨.fx, []⟩] : Mem) A ([] : List Int).length ([] : List Int).length = some [] := (RdI.nil (M := (M ++ [⟨.fx, []⟩] : Mem)) (k := .u8) (A := A)).src
    refine Evp.some e1 ?_
    have e2 : (M ++ [⟨.fx, []⟩] : Mem).app lo 1 1 ⟨some ⟨M.length, 0, none⟩, 0, 0⟩ [] 0 = some (⟨some ⟨M.length, 0, none⟩, 0, 0⟩, (M ++ [⟨.fx, []⟩] : Mem)) := by
      unfold Mem.app; rw [if_pos rfl]
    refine Evp.some e2 ?_
    exact Evp.ret (Run.ret ⟨_, _, _, rfl, Pre.app _ _, Nat.le_refl _, .inl rfl⟩)
  · refine Ac.mono (clone_ok lo A c xs M hr h0 hn hlo) ?_
    rintro _ ⟨a, cc, M', rfl, p, hc, hb⟩
    exact ⟨some a, cc, M', rfl, p, hc, .inr ⟨a, rfl, hb⟩⟩
theorem set_self_getD (xs : List Int) (i : Nat) : xs.set i (xs.getD i 0) = xs := by
  by_cases h : i < xs.length
  · refine ext_getD (by simp) fun j hj => ?_
    rw [getD_set h]
    split
    · rename_i e; rw [e]
    · rfl
  · exact List.set_eq_of_length_le (by omega)
theorem putL_id (xs : List Int) (b st n : Nat) : ∀ j, j ≤ n → putL xs b st (secL xs b st n) j = xs
  | 0, _ => rfl
  | j + 1, h => by
    simp only [putL]
    rw [putL_id xs b st n j (by omega)]
    unfold secL
    rw [getD_map_range (by omega)]
    exact set_self_getD xs _
theorem lineS_id {xs : List Int} {b st n : Nat} {level sharp : Int} (h : edgeL (secL xs b st n) level sharp = secL xs b st n) : lineS xs b st n level sharp = xs := by
  unfold lineS
  rw [h]; exact putL_id xs b st n n (Nat.le_refl _)
theorem Cells.pass_zero (m : Cells) (W H : Nat) (h : m.level = 0) (xs : List Int) : ∀ i, m.passS W H xs i = xs
  | 0 => rfl
  | i + 1 => by
    have ll : ∀ k, m.linesS W H xs i k = xs := fun k => by
      induction k with
      | zero => rfl
      | succ k ih =>
        simp only [Cells.linesS]
        rw [ih]
        exact lineS_id (by unfold edgeL; rw [if_neg (fun e => e.1 h)])
    simp only [Cells.passS]
    rw [Cells.pass_zero m W H h xs i]
    unfold Cells.cellS
    rw [ll]; split <;> rfl
section
variable (lo : Nat) (w h mw mh : Int) (m : Cells) (A AT AI AQ : Option Addr) (c ct ci cq : Nat) (xs : List Int) (M : Mem) (hlo : lo ≤ M.length) (hx : RdI M .u8 A xs) (bx : Bytes xs) (hn : xs.length ≤ 140737488351232)
variable (rt : RdI M .u8 AT m.tx) (ri : RdI M .i64 AI m.ids) (rq : RdB M AQ m.qs) (hnt : m.tx.length ≤ 140737488351232) (hm : m.mw = mw.toNat)
include hlo hx bx hn rt ri rq hnt hm
omit hlo hx bx hn hnt in
theorem frame_of (ok : PassOk w h xs.length mw mh m.tx m.ids.length m.qs.length m.level m.sharp) : ∃ W H mhn : Nat, w = W ∧ h = H ∧ mw = m.mw ∧ mh = mhn ∧ PassF m W H mhn xs.length AT AI AQ M ∧ 1 ≤ xs.length ∧ m.tx.length = m.mw * mhn := by
  obtain ⟨⟨k1, k2, k3, k4, k5, k6, k7, k8, k9⟩, l0, l1, p0, p1⟩ := ok
  have s1 := checkS_len' k1
  obtain ⟨W, rfl⟩ := Int.eq_ofNat_of_zero_le (a := w) (by omega)
  obtain ⟨H, rfl⟩ := Int.eq_ofNat_of_zero_le (a := h) (by omega)
  have n1 : xs.length = H * W := by have := s1.2.2.2.2; rw [← Int.natCast_mul, Nat.mul_comm] at this; omega
  have e1 : mw = (m.mw : Int) := by omega
  obtain ⟨mhn, rfl⟩ := Int.eq_ofNat_of_zero_le (a := mh) (by omega)
  rw [e1, ← Int.natCast_mul] at k6 k7 k8
  have pos : 1 * 1 ≤ H * W := Nat.mul_le_mul (by omega) (by omega)
  exact ⟨W, H, mhn, rfl, rfl, e1, rfl, ⟨by omega, by omega, by omega, by omega, n1, by omega, by omega, by omega, k9, rt, ri, rq, ⟨l0, l1⟩, ⟨p0, p1⟩⟩, by omega, by omega⟩
theorem rpass_ok : Ac P T lo F.zoetroperef22_Pass [.agg ⟨[.int .i64 w, .int .i64 h, .slice A xs.length c]⟩, .agg ⟨[.int .i64 mw, .int .i64 mh, .slice AT m.tx.length ct, .slice AI m.ids.length ci, .slice AQ m.qs.length cq]⟩, .bool m.up, .bool m.col, .int .i64 m.level, .int .i64 m.sharp] M (PassR M w h xs m mw mh) := by
  have bad : ¬ PassOk w h xs.length mw mh m.tx m.ids.length m.qs.length m.level m.sharp → Run P T lo F.zoetroperef22_Pass (.ret (.tuple ⟨[.agg ⟨[.int .i64 0, .int .i64 0, .slice none 0 0]⟩, .int .i64 2]⟩) M) (PassR M w h xs m mw mh) := fun hno => Run.ret ⟨Pre.refl _, by rw [if_neg hno]⟩
  refine Ac.of (Evp.of_eq (fun k => zoetroperef22_Pass.entry k ..) ?_)
  refine Evp.ob (rmay_ok lo w h mw mh A AT AI AQ xs.length c ct m.ids.length ci m.qs.length cq m.tx M rt hnt) ?_
  rintro _ rfl
  simp only [ret_int, ret_bool, ret_flt, ret_slc, ret_str, ret_ptr, ret_agg, ret_tup, ob_some, bb_true, bb_false, List.getElem?_cons_zero, List.getElem?_cons_succ, List.length_cons, List.length_nil, Nat.reduceAdd, Nat.reduceLT]
  refine Evp.nb (fun g => Evp.ret (bad fun e => of_decide_eq_false g e.1)) fun k1 => ?_
  have k1 := of_decide_eq_true k1
  refine Evp.dec (fun g => Evp.ret (bad fun e => by have := e.2; omega)) fun k2 => ?_
  refine Evp.dec (fun g => Evp.ret (bad fun e => by have := e.2; omega)) fun k3 => ?_
  refine Evp.dec (fun g => Evp.ret (bad fun e => by have := e.2; omega)) fun k4 => ?_
  refine Evp.dec (fun g => Evp.ret (bad fun e => by have := e.2; omega)) fun k5 => ?_
  have ok : PassOk w h xs.length mw mh m.tx m.ids.length m.qs.length m.level m.sharp := ⟨k1, by omega, by omega, by omega, by omega⟩
  obtain ⟨W, H, mhn, rfl, rfl, rfl, rfl, f, n0, tl⟩ := frame_of w h mw mh m AT AI AQ xs M rt ri rq hm ok
  refine Evp.ob (copyPlane_ok _ _ _ _ _ _ _ hx (by omega)) ?_
  rintro _ ⟨B, co, M1, rfl, p1, hco, g1⟩
  simp only [ret_int, ret_bool, ret_flt, ret_slc, ret_str, ret_ptr, ret_agg, ret_tup, ob_some, bb_true, bb_false, List.getElem?_cons_zero, List.getElem?_cons_succ, List.length_cons, List.length_nil, Nat.reduceAdd, Nat.reduceLT]
  obtain ⟨a, rfl, b1⟩ := g1.buf (by omega)
  refine Evp.ret (rrows lo W H mhn m A AT AI AQ xs.length c ct ci cq a co M hlo f _ xs rfl bx (fun M2 p2 b2 => ⟨p2, ?_⟩) _ 0 M1 rfl (Nat.zero_le _) p1 (by rw [Nat.zero_mul]; exact b1))
  rw [if_pos ok]
  refine ⟨a, co, rfl, ?_⟩
  rw [tl]
  exact b2
theorem pass_ok : Ac P T lo F.deblock_Pass [.agg ⟨[.int .i64 w, .int .i64 h, .slice A xs.length c]⟩, .agg ⟨[.int .i64 mw, .int .i64 mh, .slice AT m.tx.length ct, .slice AI m.ids.length ci, .slice AQ m.qs.length cq]⟩, .bool m.up, .bool m.col, .int .i64 m.level, .int .i64 m.sharp] M (PassR M w h xs m mw mh) := by
  have bad : ∀ M', Pre M M' → ¬ PassOk w h xs.length mw mh m.tx m.ids.length m.qs.length m.level m.sharp → Run P T lo F.deblock_Pass (.ret (.tuple ⟨[.agg ⟨[.int .i64 0, .int .i64 0, .slice none 0 0]⟩, .int .i64 2]⟩) M') (PassR M w h xs m mw mh) := fun M' hp hno => Run.ret ⟨hp, by rw [if_neg hno]⟩
  refine Ac.of (Evp.of_eq (fun k => deblock_Pass.entry k ..) ?_)
  refine Evp.ob (may_ok lo w h mw mh A AT AI AQ xs.length c ct m.ids.length ci m.qs.length cq m.tx M hlo rt hnt) ?_
  rintro _ ⟨M1, rfl, p1⟩
  simp only [ret_int, ret_bool, ret_flt, ret_slc, ret_str, ret_ptr, ret_agg, ret_tup, ob_some, bb_true, bb_false, List.getElem?_cons_zero, List.getElem?_cons_succ, List.length_cons, List.length_nil, Nat.reduceAdd, Nat.reduceLT]
  refine Evp.nb (fun g => Evp.ret (bad M1 p1 fun e => of_decide_eq_false g e.1)) fun k1 => ?_
  have k1 := of_decide_eq_true k1
  refine Evp.ob (within_ok ..) ?_
  rintro _ rfl
  simp only [ret_int, ret_bool, ret_flt, ret_slc, ret_str, ret_ptr, ret_agg, ret_tup, ob_some, bb_true, bb_false, List.getElem?_cons_zero, List.getElem?_cons_succ, List.length_cons, List.length_nil, Nat.reduceAdd, Nat.reduceLT]
  refine Evp.nb (fun g => Evp.ret (bad M1 p1 fun e => of_decide_eq_false g ⟨e.2.1, e.2.2.1⟩)) fun k2 => ?_
  have k2 := of_decide_eq_true k2
  refine Evp.ob (within_ok ..) ?_
  rintro _ rfl
  simp only [ret_int, ret_bool, ret_flt, ret_slc, ret_str, ret_ptr, ret_agg, ret_tup, ob_some, bb_true, bb_false, List.getElem?_cons_zero, List.getElem?_cons_succ, List.length_cons, List.length_nil, Nat.reduceAdd, Nat.reduceLT]
  refine Evp.nb (fun g => Evp.ret (bad M1 p1 fun e => of_decide_eq_false g ⟨e.2.2.2.1, e.2.2.2.2⟩)) fun k3 => ?_
  have k3 := of_decide_eq_true k3
  have ok : PassOk w h xs.length mw mh m.tx m.ids.length m.qs.length m.level m.sharp := ⟨k1, k2.1, k2.2, k3.1, k3.2⟩
  obtain ⟨W, H, mhn, rfl, rfl, rfl, rfl, f, n0, tl⟩ := frame_of w h mw mh m AT AI AQ xs M rt ri rq hm ok
  refine Evp.ob (clone_ok lo A c xs M1 (hx.pre p1) (by omega) (by omega) (Nat.le_trans hlo p1.len)) ?_
  rintro _ ⟨a, co, M2, rfl, p2, hco, b2⟩
  simp only [ret_int, ret_bool, ret_flt, ret_slc, ret_str, ret_ptr, ret_agg, ret_tup, ob_some, bb_true, bb_false, List.getElem?_cons_zero, List.getElem?_cons_succ, List.length_cons, List.length_nil, Nat.reduceAdd, Nat.reduceLT]
  have q2 := p1.trans p2
  have b2' := b2.floor (M0 := M) p1.len
  refine Evp.eqb (fun e0 => Evp.ret (Run.ret ⟨q2, ?_⟩)) fun e0 => ?_
  · rw [if_pos ok]
    refine ⟨a, co, rfl, ?_⟩
    rw [m.pass_zero _ _ e0]; exact b2'
  refine Evp.ob (bounds_ok _ _ _ _ k2 k3) ?_
  rintro _ rfl
  simp only [ret_int, ret_bool, ret_flt, ret_slc, ret_str, ret_ptr, ret_agg, ret_tup, ob_some, bb_true, bb_false, List.getElem?_cons_zero, List.getElem?_cons_succ, List.length_cons, List.length_nil, Nat.reduceAdd, Nat.reduceLT]
  have end_ : ∀ M', Pre M M' → Buf M M' a ((m.passS W H xs m.tx.length).map (Value.int .u8)) → PassR M W H xs m (m.mw : Nat) mhn (.tuple ⟨[.agg ⟨[.int .i64 W, .int .i64 H, .slice (some a) xs.length co]⟩, .int .i64 0]⟩, M') := fun M' hp hb => ⟨hp, by
    rw [if_pos ok]
    exact ⟨a, co, rfl, hb⟩⟩
  have loop := plane_cells lo W H mhn m AT AI AQ xs.length ct ci cq a co M hlo f e0 _ xs rfl bx end_ _ 0 M2 rfl (Nat.zero_le _) q2 b2'
  refine Evp.nb (fun hu => ?_) fun hu => ?_
  · refine Evp.ret ?_
    refine Run.cut (Evp.of_eq (fun k => deblock_Pass.p255 k ..) ?_)
    unfold Cells.step Cells.along Cells.back Cells.side at loop
    rw [hu] at loop ⊢
    exact Evp.ret loop
  · refine Evp.ret ?_
    refine Run.cut (Evp.of_eq (fun k => deblock_Pass.p255 k ..) ?_)
    unfold Cells.step Cells.along Cells.back Cells.side at loop
    rw [hu] at loop ⊢
    exact Evp.ret loop
end
theorem PassR.got {M M' : Mem} {w h mw mh : Int} {xs : List Int} {m : Cells} {v : Value} (hr : PassR M w h xs m mw mh (v, M')) (hk : PassOk w h xs.length mw mh m.tx m.ids.length m.qs.length m.level m.sharp) :
    ∃ a cc, v = .tuple ⟨[.agg ⟨[.int .i64 w, .int .i64 h, .slice (some a) xs.length cc]⟩, .int .i64 0]⟩ ∧ Pre M M' ∧ Buf M M' a ((m.passS w.toNat h.toNat xs m.tx.length).map (Value.int .u8)) := by
  obtain ⟨p, h⟩ := hr
  rw [if_pos hk] at h
  obtain ⟨a, cc, e, b⟩ := h
  exact ⟨a, cc, e, p, b⟩
theorem PassR.not {M M' : Mem} {w h mw mh : Int} {xs : List Int} {m : Cells} {v : Value} (hr : PassR M w h xs m mw mh (v, M')) (hk : ¬ PassOk w h xs.length mw mh m.tx m.ids.length m.qs.length m.level m.sharp) :
    v = .tuple ⟨[.agg ⟨[.int .i64 0, .int .i64 0, .slice none 0 0]⟩, .int .i64 2]⟩ ∧ Pre M M' := by
  obtain ⟨p, h⟩ := hr
  rw [if_neg hk] at h
  exact ⟨h, p⟩
theorem awakeP_ok (lo : Nat) (M : Mem) (hlo : lo ≤ M.length) : Ac P T lo F.zoetropelaw22_awake [] M fun r => ∃ M', r = (.bool true, M') ∧ Pre M M' := by
  refine Ac.mono (awake_ok lo M hlo) ?_
  rintro ⟨v, M'⟩ ⟨h, p⟩
  simp only at h
  exact ⟨M', by rw [h], p⟩
section
variable (lo : Nat) (A X : Option Addr) (cap cX : Nat) (xs : List Int) (w h : Int) (M0 M2 : Mem)
variable (hlo : lo ≤ M0.length) (hp : Pre M0 M2) (hx : RdI M0 .u8 A xs) (hX : RdI M2 .u8 X xs) (hn : xs.length ≤ 140737488351232)
include hlo hp hx hX hn
theorem passes_end (w3 h3 : Int) (Z : Option Addr) (n c i : Nat) (M : Mem) (hpM : Pre M2 M) (hi : n ≤ i) :
    Run P T lo F.zoetropelaw22_DeblockPasses (zoetropelaw22_DeblockPasses.c1012 i w h A xs.length cap w h X xs.length cX w3 h3 Z n c M) fun r => ∃ M', r = (.bool true, M') ∧ Pre M0 M' := by
  refine Run.cut (Evp.of_eq (fun k => zoetropelaw22_DeblockPasses.p1012 k ..) ?_)
  refine Evp.dec (fun h => absurd h (by omega)) fun _ => ?_
  refine Evp.ob (eqBytes_ok _ _ _ _ _ xs _ _ (hX.pre hpM) (hx.pre (hp.trans hpM)) hn) ?_
  rintro _ rfl
  simp only [ret_int, ret_bool, ret_flt, ret_slc, ret_str, ret_ptr, ret_agg, ret_tup, ob_some, bb_true, bb_false, List.getElem?_cons_zero, List.getElem?_cons_succ, List.length_cons, List.length_nil, Nat.reduceAdd, Nat.reduceLT]
  refine Evp.tt (by simp) ?_
  refine Evp.ob (awakeP_ok lo M (Nat.le_trans hlo (hp.trans hpM).len)) ?_
  rintro _ ⟨M3, rfl, p3⟩
  simp only [ret_int, ret_bool, ret_flt, ret_slc, ret_str, ret_ptr, ret_agg, ret_tup, ob_some, bb_true, bb_false, List.getElem?_cons_zero, List.getElem?_cons_succ, List.length_cons, List.length_nil, Nat.reduceAdd, Nat.reduceLT]
  exact Evp.ret (Run.ret ⟨_, rfl, (hp.trans hpM).trans p3⟩)
theorem passes_loop (w3 h3 : Int) (a : Addr) (c : Nat) : ∀ (d i : Nat) (zs : List Int) (M : Mem), zs.length - i = d → i ≤ zs.length → zs.length ≤ 262144 → Pre M2 M → Buf M2 M a (zs.map (Value.int .u8)) →
    Run P T lo F.zoetropelaw22_DeblockPasses (zoetropelaw22_DeblockPasses.c1012 i w h A xs.length cap w h X xs.length cX w3 h3 (some a) zs.length c M) fun r => ∃ M', r = (.bool true, M') ∧ Pre M0 M' := by
  intro d
  induction d with
  | zero =>
    intro i zs M hd hi hz hpM hbuf
    exact passes_end lo A X cap cX xs w h M0 M2 hlo hp hx hX hn w3 h3 _ _ _ _ M hpM (by omega)
  | succ d ih =>
    intro i zs M hd hi hz hpM hbuf
    refine Run.cut (Evp.of_eq (fun k => zoetropelaw22_DeblockPasses.p1012 k ..) ?_)
    refine Evp.dec (fun _ => ?_) fun h => absurd h (by omega)
    refine Evp.pos (by omega) ?_
    simp only [Int.toNat_natCast]
    refine Evp.ldI hbuf.rdI (by omega) fun _ _ => ?_
    refine Evp.pos (by omega) (Evp.some rfl ?_)
    obtain ⟨M3, h1, h2, h3, h4, h5⟩ := hbuf.st (lo := lo) (i := i) (vs := [.int .u8 (xorI .u8 (zs.getD i 0) 90)]) hpM (Nat.le_trans hlo hp.len) (by simp; omega)
    refine Evp.some h1 ?_
    rw [setL_one, set_map] at h2
    rw [w64 (by omega)]
    have := ih (i + 1) (zs.set i (xorI .u8 (zs.getD i 0) 90)) M3 (by simp; omega) (by simp; omega) (by simpa using hz) h3 h2
    rw [List.length_set] at this
    exact Evp.ret this
end
theorem copyInts_ok (lo : Nat) (A : Option Addr) (c : Nat) (xs : List Int) (M : Mem) (hx : RdI M .i64 A xs) (hn : xs.length * 8 ≤ 140737488351232) (hlo : lo ≤ M.length) :
    Ac P T lo F.zoetroperef00_CopyInts [.slice A xs.length c] M fun r => ∃ A' c' M', r = (.slice A' xs.length c', M') ∧ Pre M M' ∧ xs.length ≤ c' ∧ Grow M M' 1 A' xs.length (xs.map (Value.int .i64)) := by
  refine Ac.of (Evp.of_eq (fun k => zoetroperef00_CopyInts.entry k ..) ?_)
  refine Evp.some hx.src ?_
  obtain ⟨s, M', h1, h2, h3, h4, _, h5⟩ := (Grow.nil (M0 := M) (M := M) (z := 1)).app (bytes := 8) (c := 0) (m := xs.length) (vs := xs.map (Value.int .i64)) (Pre.refl M) hlo (by simp) (by omega) (by omega)
  rw [Nat.zero_add] at h3
  refine Evp.some h1 (Evp.ret (Run.ret ⟨s.a, s.c, M', ?_, h4, by rw [← h3]; exact h5 (Nat.zero_le _), ?_⟩))
  · simp only [h3]
  · rw [h3] at h2; exact h2
section
variable (lo : Nat) (w h mw mh : Int) (m : Cells) (A AT AI AQ : Option Addr) (c ct ci cq : Nat) (xs : List Int) (M : Mem) (hlo : lo ≤ M.length)
variable (rt : RdI M .u8 AT m.tx) (ri : RdI M .i64 AI m.ids) (rq : RdB M AQ m.qs) (hnt : m.tx.length ≤ 140737488351232) (hni : m.ids.length * 8 ≤ 140737488351232) (hnq : m.qs.length ≤ 140737488351232)
include hlo rt ri rq hnt hni hnq
theorem copied_ok : Ac P T lo F.zoetropelaw22_copied [.agg ⟨[.int .i64 mw, .int .i64 mh, .slice AT m.tx.length ct, .slice AI m.ids.length ci, .slice AQ m.qs.length cq]⟩] M fun r => ∃ BT BI BQ dt di dq M', r = (.agg ⟨[.int .i64 mw, .int .i64 mh, .slice BT m.tx.length dt, .slice BI m.ids.length di, .slice BQ m.qs.length dq]⟩, M') ∧ Pre M M' ∧ RdI M' .u8 BT m.tx ∧ RdI M' .i64 BI m.ids ∧ RdB M' BQ m.qs := by
  refine Ac.of (Evp.of_eq (fun k => zoetropelaw22_copied.entry k ..) ?_)
  refine Evp.ob (copyBytes_ok _ _ _ _ _ rt (by omega) (Nat.le_refl _)) ?_
  rintro _ ⟨BT, dt, M1, rfl, p1, _, g1⟩
  simp only [ret_int, ret_bool, ret_flt, ret_slc, ret_str, ret_ptr, ret_agg, ret_tup, ob_some, bb_true, bb_false, List.getElem?_cons_zero, List.getElem?_cons_succ, List.length_cons, List.length_nil, Nat.reduceAdd, Nat.reduceLT]
  refine Evp.ob (copyInts_ok M.length AI ci m.ids M1 (ri.pre p1) hni p1.len) ?_
  rintro _ ⟨BI, di, M2, rfl, p2, _, g2⟩
  simp only [ret_int, ret_bool, ret_flt, ret_slc, ret_str, ret_ptr, ret_agg, ret_tup, ob_some, bb_true, bb_false, List.getElem?_cons_zero, List.getElem?_cons_succ, List.length_cons, List.length_nil, Nat.reduceAdd, Nat.reduceLT]
  have q2 := p1.trans p2
  refine Evp.some (rq.pre q2).src ?_
  obtain ⟨⟨sa, sn, sc⟩, M3, e3, g3, hsn, p3, _, _⟩ := (Grow.nil (M0 := M2) (M := M2) (z := 1)).app (lo := lo) (bytes := 1) (c := 0) (m := m.qs.length) (vs := m.qs.map Value.bool) (Pre.refl M2) (Nat.le_trans hlo q2.len) (by simp) (by omega) (by omega)
  refine Evp.some e3 ?_
  simp only [Nat.zero_add] at hsn
  subst hsn
  exact Evp.ret (Run.ret ⟨BT, BI, sa, dt, di, sc, M3, rfl, q2.trans p3, (g1.rdI.pre p2).pre p3, g2.rdI.pre p3, g3.rd⟩)
end
section
variable (lo : Nat) (w h mw mh : Int) (m : Cells) (A AT AI AQ : Option Addr) (c ct ci cq : Nat) (xs : List Int) (M : Mem) (hlo : lo ≤ M.length) (hx : RdI M .u8 A xs) (bx : Bytes xs) (hn : xs.length ≤ 140737488351232)
variable (rt : RdI M .u8 AT m.tx) (ri : RdI M .i64 AI m.ids) (rq : RdB M AQ m.qs) (hnt : m.tx.length ≤ 140737488351232) (hni : m.ids.length * 8 ≤ 140737488351232) (hnq : m.qs.length ≤ 140737488351232) (hm : m.mw = mw.toNat)
include hlo hx bx hn rt ri rq hnt hni hnq hm
theorem passes_ok : Ac P T lo F.zoetropelaw22_DeblockPasses [.agg ⟨[.int .i64 w, .int .i64 h, .slice A xs.length c]⟩, .agg ⟨[.int .i64 mw, .int .i64 mh, .slice AT m.tx.length ct, .slice AI m.ids.length ci, .slice AQ m.qs.length cq]⟩, .agg ⟨[.bool m.up, .bool m.col, .int .i64 m.level, .int .i64 m.sharp]⟩] M fun r => ∃ M', r = (.bool true, M') ∧ Pre M M' := by
  refine Ac.of (Evp.of_eq (fun k => zoetropelaw22_DeblockPasses.entry k ..) ?_)
  refine Evp.ob (copyBytes_ok _ _ _ _ _ hx hn (Nat.le_refl _)) ?_
  rintro _ ⟨X, cX, M1, rfl, p1, _, g1⟩
  simp only [ret_int, ret_bool, ret_flt, ret_slc, ret_str, ret_ptr, ret_agg, ret_tup, ob_some, bb_true, bb_false, List.getElem?_cons_zero, List.getElem?_cons_succ, List.length_cons, List.length_nil, Nat.reduceAdd, Nat.reduceLT]
  refine Evp.ob (copied_ok M1.length mw mh m AT AI AQ ct ci cq M1 (Nat.le_refl _) (rt.pre p1) (ri.pre p1) (rq.pre p1) hnt hni hnq) ?_
  rintro _ ⟨BT, BI, BQ, dt, di, dq, M2, rfl, p2, rt2, ri2, rq2⟩
  simp only [ret_int, ret_bool, ret_flt, ret_slc, ret_str, ret_ptr, ret_agg, ret_tup, ob_some, bb_true, bb_false, List.getElem?_cons_zero, List.getElem?_cons_succ, List.length_cons, List.length_nil, Nat.reduceAdd, Nat.reduceLT]
  have q2 := p1.trans p2
  refine Evp.ob (pass_ok M1.length w h mw mh m X BT BI BQ cX dt di dq xs M2 p2.len (g1.rdI.pre p2) bx hn rt2 ri2 rq2 hnt hm) ?_
  rintro ⟨v, M3⟩ h3
  by_cases ok : PassOk w h xs.length mw mh m.tx m.ids.length m.qs.length m.level m.sharp
  · obtain ⟨a, cc, rfl, p3, b3⟩ := h3.got ok
    simp only [ret_int, ret_bool, ret_flt, ret_slc, ret_str, ret_ptr, ret_agg, ret_tup, ob_some, bb_true, bb_false, List.getElem?_cons_zero, List.getElem?_cons_succ, List.length_cons, List.length_nil, Nat.reduceAdd, Nat.reduceLT]
    have q3 := q2.trans p3
    refine Evp.ob (rpass_ok lo w h mw mh m A AT AI AQ c ct ci cq xs M3 (Nat.le_trans hlo q3.len) (hx.pre q3) bx hn (rt.pre q3) (ri.pre q3) (rq.pre q3) hnt hm) ?_
    rintro ⟨v, M4⟩ h4
    obtain ⟨a', cc', rfl, p4, b4⟩ := h4.got ok
    simp only [ret_int, ret_bool, ret_flt, ret_slc, ret_str, ret_ptr, ret_agg, ret_tup, ob_some, bb_true, bb_false, List.getElem?_cons_zero, List.getElem?_cons_succ, List.length_cons, List.length_nil, Nat.reduceAdd, Nat.reduceLT]
    refine Evp.neb (fun e => absurd rfl e) fun _ => Evp.neb (fun e => absurd rfl e) fun _ => Evp.neb (fun e => absurd rfl e) fun _ => ?_
    have lz := m.passS_len w.toNat h.toNat xs m.tx.length
    have sm : xs.length ≤ 262144 := by
      have k := checkS_len' ok.1.1
      have := area ⟨k.1, k.2.1, k.2.2.1, k.2.2.2.1⟩
      omega
    generalize m.passS w.toNat h.toNat xs m.tx.length = zs at *
    rw [← lz]
    refine Evp.ob (eqBytes_ok _ _ _ _ _ zs zs M4 (b3.rdI.pre p4) b4.rdI (by omega)) ?_
    rintro _ rfl
    simp only [ret_int, ret_bool, ret_flt, ret_slc, ret_str, ret_ptr, ret_agg, ret_tup, ob_some, bb_true, bb_false, List.getElem?_cons_zero, List.getElem?_cons_succ, List.length_cons, List.length_nil, Nat.reduceAdd, Nat.reduceLT]
    refine Evp.ff (by simp) ?_
    rw [lz]
    refine Evp.ob (eqBytes_ok _ _ _ _ _ xs xs M4 (g1.rdI.pre ((p2.trans p3).trans p4)) (hx.pre (q3.trans p4)) hn) ?_
    rintro _ rfl
    simp only [ret_int, ret_bool, ret_flt, ret_slc, ret_str, ret_ptr, ret_agg, ret_tup, ob_some, bb_true, bb_false, List.getElem?_cons_zero, List.getElem?_cons_succ, List.length_cons, List.length_nil, Nat.reduceAdd, Nat.reduceLT]
    refine Evp.ff (by simp) ?_
    have := passes_loop lo A X c cX xs w h M M2 hlo q2 hx (g1.rdI.pre p2) hn w h a cc _ 0 zs M4 rfl (Nat.zero_le _) (by omega) (p3.trans p4) (b3.pre p4)
    rw [lz] at this
    exact Evp.ret this
  · obtain ⟨rfl, p3⟩ := h3.not ok
    simp only [ret_int, ret_bool, ret_flt, ret_slc, ret_str, ret_ptr, ret_agg, ret_tup, ob_some, bb_true, bb_false, List.getElem?_cons_zero, List.getElem?_cons_succ, List.length_cons, List.length_nil, Nat.reduceAdd, Nat.reduceLT]
    have q3 := q2.trans p3
    refine Evp.ob (rpass_ok lo w h mw mh m A AT AI AQ c ct ci cq xs M3 (Nat.le_trans hlo q3.len) (hx.pre q3) bx hn (rt.pre q3) (ri.pre q3) (rq.pre q3) hnt hm) ?_
    rintro ⟨v, M4⟩ h4
    obtain ⟨rfl, p4⟩ := h4.not ok
    simp only [ret_int, ret_bool, ret_flt, ret_slc, ret_str, ret_ptr, ret_agg, ret_tup, ob_some, bb_true, bb_false, List.getElem?_cons_zero, List.getElem?_cons_succ, List.length_cons, List.length_nil, Nat.reduceAdd, Nat.reduceLT]
    refine Evp.neb (fun e => absurd rfl e) fun _ => Evp.neb (fun e => absurd rfl e) fun _ => Evp.neb (fun e => absurd rfl e) fun _ => ?_
    refine Evp.ob (eqBytes_ok _ none none 0 0 [] [] M4 RdI.nil RdI.nil (by decide)) ?_
    rintro _ rfl
    simp only [ret_int, ret_bool, ret_flt, ret_slc, ret_str, ret_ptr, ret_agg, ret_tup, ob_some, bb_true, bb_false, List.getElem?_cons_zero, List.getElem?_cons_succ, List.length_cons, List.length_nil, Nat.reduceAdd, Nat.reduceLT]
    refine Evp.ff (by simp) ?_
    refine Evp.ob (eqBytes_ok _ _ _ _ _ xs xs M4 (g1.rdI.pre ((p2.trans p3).trans p4)) (hx.pre (q3.trans p4)) hn) ?_
    rintro _ rfl
    simp only [ret_int, ret_bool, ret_flt, ret_slc, ret_str, ret_ptr, ret_agg, ret_tup, ob_some, bb_true, bb_false, List.getElem?_cons_zero, List.getElem?_cons_succ, List.length_cons, List.length_nil, Nat.reduceAdd, Nat.reduceLT]
    refine Evp.ff (by simp) ?_
    exact Evp.ret (passes_end lo A X c cX xs w h M M2 hlo q2 hx (g1.rdI.pre p2) hn 0 0 none 0 0 0 M4 (p3.trans p4) (Nat.le_refl _))
end
theorem DeblockPasses_law (M : Mem) (vs : List Value) (hro : AllRo M) (hv : LaysArgs P M [36, 39, 41] vs) : Ac P T M.length F.zoetropelaw22_DeblockPasses vs M fun r => r.1 = .bool true := by
  obtain ⟨w, h, A, c, xs, mw, mh, AT, ct, tx, AI, ci, ids, AQ, cq, qs, up, col, level, sharp, rfl, _, _, hc, hn, hx, wx, _, _, _, hnt, hT, _, _, hni, hI, _, _, hnq, hQ, _⟩ := Arg.DeblockPasses hv
  refine Ac.mono (passes_ok M.length w h mw mh ⟨mw.toNat, up, col, tx, ids, qs, level, sharp⟩ A AT AI AQ c ct ci cq xs M (Nat.le_refl _) hx (fun x hx => wf_u8 (wx x hx)) (by omega) hT hI hQ (by simp only; omega) hni (by simp only; omega) rfl) ?_
  rintro _ ⟨M', rfl, _⟩
  rfl
end Go.Zt
