/- DeblockNames. -/
import Derived.Test.YtibbmknipkifeaaFr
set_option linter.unusedVariables false
set_option linter.unusedSimpArgs false
set_option maxRecDepth 100000
namespace Go.Zt
theorem rdI_of' {M0 M : Mem} {A : Option Addr} {n : Nat} {k : IntKind} {xs : List Int} (g : Grow M0 M 1 A n (xs.map (Value.int k))) (h : xs.length = n) : RdI M k A xs := by subst h; exact g.rd
theorem rdB_of' {M0 M : Mem} {A : Option Addr} {n : Nat} {xs : List Bool} (g : Grow M0 M 1 A n (xs.map Value.bool)) (h : xs.length = n) : RdB M A xs := by subst h; exact g.rd
theorem wrap8 (x : Int) : 0 ≤ IntKind.u8.wrap x ∧ IntKind.u8.wrap x ≤ 255 := by rw [IntKind.wrap_u8]; omega
theorem Bytes.set {xs : List Int} (b : Bytes xs) (i : Nat) {v : Int} (hv : 0 ≤ v ∧ v ≤ 255) : Bytes (xs.set i v) := fun x hx => by
  rcases List.mem_or_eq_of_mem_set hx with h | rfl
  · exact b x h
  · exact hv
theorem fill_at {M : Mem} {lo i z : Nat} {c0 : List Value} {c : Value} {cs : List Value} (h : M[i]? = some ⟨.op 0, c0⟩) (hlo : lo ≤ i) (hz : z ≠ 0) : M.fill lo i z (c :: cs) = some (⟨i, 0, some (c :: cs).length⟩, M.set i ⟨.op z, c :: cs⟩) := by
  unfold Mem.fill
  simp only [h]
  rw [if_pos ⟨hlo, hz⟩]
theorem op_rd {M : Mem} {b z n w : Nat} {cs : List Value} (h : M[b]? = some ⟨.op z, cs⟩) (hl : cs.length = n * w) : Rd M (some ⟨b, 0, some cs.length⟩) n w cs :=
  Buf.rd (M0 := []) ⟨.op z, rfl, Nat.zero_le _, h, .inr ⟨z, rfl, rfl⟩⟩ hl
def l16 (i : Nat) : List Int := (List.range 14).map fun j => if 7 ≤ j ∧ j < i then 16 else 0
def n14 : List Int := l16 14
theorem n14_bytes : Bytes n14 := byl (by decide)
section
variable (lo : Nat) (w h mw mh : Int) (A AT AI AQ : Option Addr) (c ct ci cq n nt ni nq : Nat) (xs tx ids : List Int) (qs : List Bool) (up col : Bool) (level sharp : Int) (M : Mem)
theorem pass_names (hlo : lo ≤ M.length) (hx : RdI M .u8 A xs) (bx : Bytes xs) (hn : xs.length = n) (ln : n ≤ 1000000) (rt : RdI M .u8 AT tx) (ht : tx.length = nt) (lt : nt ≤ 1000000) (ri : RdI M .i64 AI ids) (hi : ids.length = ni) (li : ni ≤ 1000000) (rq : RdB M AQ qs) (hq : qs.length = nq) (lq : nq ≤ 1000000) :
    Ac P T lo F.zoetropelaw22_DeblockPasses [.agg ⟨[.int .i64 w, .int .i64 h, .slice A n c]⟩, .agg ⟨[.int .i64 mw, .int .i64 mh, .slice AT nt ct, .slice AI ni ci, .slice AQ nq cq]⟩, .agg ⟨[.bool up, .bool col, .int .i64 level, .int .i64 sharp]⟩] M fun r => ∃ M', r = (.bool true, M') ∧ Pre M M' := by
  subst hn; subst ht; subst hi; subst hq
  exact passes_ok lo w h mw mh ⟨mw.toNat, up, col, tx, ids, qs, level, sharp⟩ A AT AI AQ c ct ci cq xs M hlo hx bx (by omega) rt ri rq (by show tx.length ≤ _; omega) (by show ids.length * 8 ≤ _; omega) (by show qs.length ≤ _; omega) rfl
end
/-- A map of the list of maps. -/
structure CM where
  mw : Int
  mh : Int
  AT : Option Addr
  nt : Nat
  ct : Nat
  AI : Option Addr
  ni : Nat
  ci : Nat
  AQ : Option Addr
  nq : Nat
  cq : Nat
  tx : List Int
  ids : List Int
  qs : List Bool
structure CM.Ok (m : CM) (M : Mem) : Prop where
  rt : RdI M .u8 m.AT m.tx
  ri : RdI M .i64 m.AI m.ids
  rq : RdB M m.AQ m.qs
  lt : m.tx.length = m.nt ∧ m.nt ≤ 1000000
  li : m.ids.length = m.ni ∧ m.ni ≤ 1000000
  lq : m.qs.length = m.nq ∧ m.nq ≤ 1000000
theorem CM.Ok.pre {m : CM} {M M' : Mem} (h : m.Ok M) (p : Pre M M') : m.Ok M' := ⟨h.rt.pre p, h.ri.pre p, h.rq.pre p, h.lt, h.li, h.lq⟩
def CM.At (m : CM) (cs : List Value) (o : Nat) : Prop := cs[o]? = some (.int .i64 m.mw) ∧ cs[o + 1]? = some (.int .i64 m.mh) ∧ cs[o + 2]? = some (.slice m.AT m.nt m.ct) ∧ cs[o + 3]? = some (.slice m.AI m.ni m.ci) ∧ cs[o + 4]? = some (.slice m.AQ m.nq m.cq)
theorem z24 : zerosL [.int .u8 0] 24 = (List.replicate 24 (0 : Int)).map (Value.int .u8) := rfl
theorem z14 : zerosL [.int .u8 0] 14 = (l16 7).map (Value.int .u8) := rfl
section
variable (lo : Nat) (M0 : Mem) (hlo : lo ≤ M0.length)
include hlo
theorem names_maps (b : Nat) (cs : List Value) (w h : Int) (A : Option Addr) (n cz : Nat) (zs : List Int) (bz : Bytes zs) (hz : zs.length = n) (ln : n ≤ 1000000) (M1 : Mem) (hx : RdI M1 .u8 A zs) (hb : M1[b]? = some ⟨.fx, cs⟩) (hm : ∀ i, i < 8 → ∃ m : CM, m.At cs (i * 5) ∧ m.Ok M1) :
    ∀ (d i : Nat) (M : Mem), 8 - i = d → i ≤ 8 → Pre M0 M → Pre M1 M → Run P T lo F.zoetropelaw22_DeblockNames (zoetropelaw22_DeblockNames.c524276 (some ⟨b, 0, none⟩) 8 8 i w h A n cz M) fun r => r.1 = .bool true := by
  intro d
  induction d with
  | zero =>
    intro i M hd hi p0 p1
    refine Run.cut (Evp.of_eq (fun k => zoetropelaw22_DeblockNames.p524276 k ..) ?_)
    refine Evp.dec (fun h => absurd h (by omega)) fun _ => ?_
    refine Evp.ob (awakeP_ok lo M (Nat.le_trans hlo p0.len)) ?_
    rintro _ ⟨M3, rfl, p3⟩
    simp only [ret_int, ret_bool, ret_flt, ret_slc, ret_str, ret_ptr, ret_agg, ret_tup, ob_some, bb_true, bb_false, List.getElem?_cons_zero, List.getElem?_cons_succ, List.length_cons, List.length_nil, Nat.reduceAdd, Nat.reduceLT]
    exact Evp.ret (Run.ret rfl)
  | succ d ih =>
    intro i M hd hi p0 p1
    obtain ⟨m, ⟨c0, c1, c2, c3, c4⟩, ok⟩ := hm i (by omega)
    have ld : ∀ {M' : Mem}, Pre M M' → ∀ j, M'.ld (plus ⟨b, 0, none⟩ (i * 5 + j)) = cs[i * 5 + j]? := fun p j => fx_ldp (p b _ (p1 b _ hb)) _
    have ld0 : ∀ {M' : Mem}, Pre M M' → M'.ld (plus ⟨b, 0, none⟩ (i * 5)) = cs[i * 5]? := fun p => fx_ldp (p b _ (p1 b _ hb)) _
    have hbl : b < M.length := lt_of_get (p1 b _ hb)
    have pz := Pre.refl M
    refine Run.cut (Evp.of_eq (fun k => zoetropelaw22_DeblockNames.p524276 k ..) ?_)
    refine Evp.dec (fun _ => ?_) fun h => absurd h (by omega)
    refine Evp.pos (by omega) (Evp.some rfl ?_)
    simp only [Int.toNat_natCast, plus_plus]
    rw [ld0 pz, ld pz, ld pz, ld pz, ld pz, c0, c1, c2, c3, c4]
    simp only [ret_int, ret_bool, ret_flt, ret_slc, ret_str, ret_ptr, ret_agg, ret_tup, ob_some, bb_true, bb_false, List.getElem?_cons_zero, List.getElem?_cons_succ, List.length_cons, List.length_nil, Nat.reduceAdd, Nat.reduceLT]
    refine Evp.ob (pass_names M.length w h m.mw m.mh A m.AT m.AI m.AQ cz m.ct m.ci m.cq n m.nt m.ni m.nq zs m.tx m.ids m.qs true false 40 0 M (Nat.le_refl _) (hx.pre p1) bz hz ln (ok.pre p1).rt ok.lt.1 ok.lt.2 (ok.pre p1).ri ok.li.1 ok.li.2 (ok.pre p1).rq ok.lq.1 ok.lq.2) ?_
    rintro _ ⟨M2, rfl, q2⟩
    simp only [ret_int, ret_bool, ret_flt, ret_slc, ret_str, ret_ptr, ret_agg, ret_tup, ob_some, bb_true, bb_false, List.getElem?_cons_zero, List.getElem?_cons_succ, List.length_cons, List.length_nil, Nat.reduceAdd, Nat.reduceLT]
    refine Evp.ff rfl ?_
    refine Evp.pos (by omega) (Evp.some rfl ?_)
    rw [ld0 q2, ld q2, ld q2, ld q2, ld q2, c0, c1, c2, c3, c4]
    simp only [ret_int, ret_bool, ret_flt, ret_slc, ret_str, ret_ptr, ret_agg, ret_tup, ob_some, bb_true, bb_false, List.getElem?_cons_zero, List.getElem?_cons_succ, List.length_cons, List.length_nil, Nat.reduceAdd, Nat.reduceLT]
    have p2 := p1.trans q2
    refine Evp.ob (pass_names M.length w h m.mw m.mh A m.AT m.AI m.AQ cz m.ct m.ci m.cq n m.nt m.ni m.nq zs m.tx m.ids m.qs false false 64 0 M2 q2.len (hx.pre p2) bz hz ln (ok.pre p2).rt ok.lt.1 ok.lt.2 (ok.pre p2).ri ok.li.1 ok.li.2 (ok.pre p2).rq ok.lq.1 ok.lq.2) ?_
    rintro _ ⟨M3, rfl, q3⟩
    simp only [ret_int, ret_bool, ret_flt, ret_slc, ret_str, ret_ptr, ret_agg, ret_tup, ob_some, bb_true, bb_false, List.getElem?_cons_zero, List.getElem?_cons_succ, List.length_cons, List.length_nil, Nat.reduceAdd, Nat.reduceLT]
    refine Evp.ff rfl ?_
    refine Evp.pos (by decide) (Evp.pos (by omega) (Evp.some rfl ?_))
    have p3 := p2.trans q3
    have q4 := Pre.app M3 [⟨.fx, zerosL [.int .u8 0] 24⟩]
    have p4 := p3.trans q4
    have s4 := (q2.trans q3).trans q4
    have r4 : RdI (M3 ++ [⟨.fx, zerosL [.int .u8 0] 24⟩]) .u8 (some ⟨M3.length, 0, none⟩) (List.replicate 24 0) := by rw [z24]; exact RdI.lit _
    simp only [plus_block, if_pos hbl]
    rw [ld0 s4, ld s4, ld s4, ld s4, ld s4, c0, c1, c2, c3, c4]
    simp only [ret_int, ret_bool, ret_flt, ret_slc, ret_str, ret_ptr, ret_agg, ret_tup, ob_some, bb_true, bb_false, List.getElem?_cons_zero, List.getElem?_cons_succ, List.length_cons, List.length_nil, Nat.reduceAdd, Nat.reduceLT]
    refine Evp.ob (pass_names M.length 6 4 m.mw m.mh (some ⟨M3.length, 0, none⟩) m.AT m.AI m.AQ 24 m.ct m.ci m.cq 24 m.nt m.ni m.nq (List.replicate 24 0) m.tx m.ids m.qs false false 0 0 _ s4.len r4 (byl (by decide)) (by decide) (by decide) (ok.pre p4).rt ok.lt.1 ok.lt.2 (ok.pre p4).ri ok.li.1 ok.li.2 (ok.pre p4).rq ok.lq.1 ok.lq.2) ?_
    rintro _ ⟨M5, rfl, q5⟩
    simp only [ret_int, ret_bool, ret_flt, ret_slc, ret_str, ret_ptr, ret_agg, ret_tup, ob_some, bb_true, bb_false, List.getElem?_cons_zero, List.getElem?_cons_succ, List.length_cons, List.length_nil, Nat.reduceAdd, Nat.reduceLT]
    refine Evp.ff rfl ?_
    refine Evp.pos (by omega) (Evp.some rfl ?_)
    have p5 := p4.trans q5
    have s5 := s4.trans q5
    rw [ld0 s5, ld s5, ld s5, ld s5, ld s5, c0, c1, c2, c3, c4]
    simp only [ret_int, ret_bool, ret_flt, ret_slc, ret_str, ret_ptr, ret_agg, ret_tup, ob_some, bb_true, bb_false, List.getElem?_cons_zero, List.getElem?_cons_succ, List.length_cons, List.length_nil, Nat.reduceAdd, Nat.reduceLT]
    refine Evp.ob (pass_names M.length 0 0 m.mw m.mh none m.AT m.AI m.AQ 0 m.ct m.ci m.cq 0 m.nt m.ni m.nq [] m.tx m.ids m.qs false false 0 8 M5 s5.len RdI.nil (byl rfl) rfl (by decide) (ok.pre p5).rt ok.lt.1 ok.lt.2 (ok.pre p5).ri ok.li.1 ok.li.2 (ok.pre p5).rq ok.lq.1 ok.lq.2) ?_
    rintro _ ⟨M6, rfl, q6⟩
    simp only [ret_int, ret_bool, ret_flt, ret_slc, ret_str, ret_ptr, ret_agg, ret_tup, ob_some, bb_true, bb_false, List.getElem?_cons_zero, List.getElem?_cons_succ, List.length_cons, List.length_nil, Nat.reduceAdd, Nat.reduceLT]
    refine Evp.ff rfl ?_
    rw [w64 (by omega), show (i : Int) + 1 = ((i + 1 : Nat) : Int) by omega]
    exact Evp.ret (ih (i + 1) M6 (by omega) (by omega) (p0.trans (s5.trans q6)) (p5.trans q6))
omit hlo in
theorem RdB.slAddr {M : Mem} {A : Option Addr} {l h c : Nat} {xs : List Bool} (hr : RdB M A xs) (h1 : l ≤ h) (h2 : h ≤ xs.length) (hc : xs.length ≤ c) :
    RdB M (Zt.slAddr 1 A l c) ((xs.drop l).take (h - l)) := by
  have := Rd.slAddr hr h1 h2 hc
  unfold RdB
  rw [List.length_take, List.length_drop, Nat.min_eq_left (by omega), List.map_take, List.map_drop]
  simpa using this
theorem names_tail (M : Mem) (zs : List Int) (bz : Bytes zs) (hz : zs.length = 128) (b : Addr) (cz : Nat) (p0 : Pre M0 M) (hb : Buf M0 M b (zs.map (Value.int .u8))) (i : Nat) (hi : 128 ≤ i) : Run P T lo F.zoetropelaw22_DeblockNames (zoetropelaw22_DeblockNames.c16372 i 32 4 (some b) 128 cz M) fun r => r.1 = .bool true := by
  have hx : RdI M .u8 (some b) zs := hb.rdI
  have one : ∀ (sz : Nat) (M1 : Mem), Pre M M1 → TxP sz → Ac P T M.length F.zoetropelaw22_cells [.agg ⟨[.int .i64 32, .int .i64 4, .slice (some b) 128 cz]⟩, .int .u8 sz, .bool false] M1 fun r => ∃ BT BI BQ dt di dq M', r = (.agg ⟨[.int .i64 8, .int .i64 1, .slice BT 8 dt, .slice BI 8 di, .slice BQ 8 dq]⟩, M') ∧ CellsI M1 M' 8 sz false 8 BT BI BQ dt di dq := fun sz M1 p1 hs => cells_ok M.length 32 4 sz false (some b) 128 cz M1 p1.len (by decide) (by decide) hs
  have two : ∀ (sz : Nat) (col : Bool) (M1 M2 : Mem) (BT BI BQ : Option Addr) (dt di dq : Nat), Pre M M1 → CellsI M1 M2 8 sz false 8 BT BI BQ dt di dq → Ac P T M.length F.zoetropelaw22_DeblockPasses [.agg ⟨[.int .i64 32, .int .i64 4, .slice (some b) 128 cz]⟩, .agg ⟨[.int .i64 8, .int .i64 1, .slice BT 8 dt, .slice BI 8 di, .slice BQ 8 dq]⟩, .agg ⟨[.bool true, .bool col, .int .i64 63, .int .i64 0]⟩] M2 fun r => ∃ M', r = (.bool true, M') ∧ Pre M2 M' := fun sz col M1 M2 BT BI BQ dt di dq p1 ⟨p2, _, gt, gi, gq, _, _, _⟩ =>
    pass_names M.length 32 4 8 1 (some b) BT BI BQ cz dt di dq 128 8 8 8 zs (List.replicate 8 (sz : Int)) (idsL 8 (sz / 4) 8) (List.replicate 8 false) true col 63 0 M2 (p1.trans p2).len (hx.pre (p1.trans p2)) bz hz (by decide) (rdI_of' gt List.length_replicate) List.length_replicate (by decide) (rdI_of' gi (idsL_len _ _ _)) (idsL_len _ _ _) (by decide) (rdB_of' gq List.length_replicate) List.length_replicate (by decide)
  refine Run.cut (Evp.of_eq (fun k => zoetropelaw22_DeblockNames.p16372 k ..) ?_)
  refine Evp.dec (fun h => absurd h (by omega)) fun _ => ?_
  refine Evp.ob (one 16 M (Pre.refl M) (by decide)) ?_
  rintro _ ⟨BT, BI, BQ, dt, di, dq, M1, rfl, I1⟩
  simp only [ret_int, ret_bool, ret_flt, ret_slc, ret_str, ret_ptr, ret_agg, ret_tup, ob_some, bb_true, bb_false, List.getElem?_cons_zero, List.getElem?_cons_succ, List.length_cons, List.length_nil, Nat.reduceAdd, Nat.reduceLT]
  have p1 := I1.1
  refine Evp.ob (two 16 false M M1 _ _ _ _ _ _ (Pre.refl M) I1) ?_
  rintro _ ⟨M2, rfl, p2⟩
  simp only [ret_int, ret_bool, ret_flt, ret_slc, ret_str, ret_ptr, ret_agg, ret_tup, ob_some, bb_true, bb_false, List.getElem?_cons_zero, List.getElem?_cons_succ, List.length_cons, List.length_nil, Nat.reduceAdd, Nat.reduceLT]
  refine Evp.ff rfl ?_
  have q2 := p1.trans p2
  refine Evp.ob (one 8 M2 q2 (by decide)) ?_
  rintro _ ⟨CT, CI, CQ, et, ei, eq, M3, rfl, I3⟩
  simp only [ret_int, ret_bool, ret_flt, ret_slc, ret_str, ret_ptr, ret_agg, ret_tup, ob_some, bb_true, bb_false, List.getElem?_cons_zero, List.getElem?_cons_succ, List.length_cons, List.length_nil, Nat.reduceAdd, Nat.reduceLT]
  refine Evp.ob (two 8 false M2 M3 _ _ _ _ _ _ q2 I3) ?_
  rintro _ ⟨M4, rfl, p4⟩
  simp only [ret_int, ret_bool, ret_flt, ret_slc, ret_str, ret_ptr, ret_agg, ret_tup, ob_some, bb_true, bb_false, List.getElem?_cons_zero, List.getElem?_cons_succ, List.length_cons, List.length_nil, Nat.reduceAdd, Nat.reduceLT]
  refine Evp.ff rfl ?_
  have q4 := (q2.trans I3.1).trans p4
  refine Evp.ob (one 16 M4 q4 (by decide)) ?_
  rintro _ ⟨DT, DI, DQ, ft, fi, fq, M5, rfl, I5⟩
  simp only [ret_int, ret_bool, ret_flt, ret_slc, ret_str, ret_ptr, ret_agg, ret_tup, ob_some, bb_true, bb_false, List.getElem?_cons_zero, List.getElem?_cons_succ, List.length_cons, List.length_nil, Nat.reduceAdd, Nat.reduceLT]
  refine Evp.ob (two 16 true M4 M5 _ _ _ _ _ _ q4 I5) ?_
  rintro _ ⟨M6, rfl, p6⟩
  simp only [ret_int, ret_bool, ret_flt, ret_slc, ret_str, ret_ptr, ret_agg, ret_tup, ob_some, bb_true, bb_false, List.getElem?_cons_zero, List.getElem?_cons_succ, List.length_cons, List.length_nil, Nat.reduceAdd, Nat.reduceLT]
  refine Evp.ff rfl ?_
  have q6 := (q4.trans I5.1).trans p6
  have p7 := Pre.app M6 [⟨.fx, ([1, 5, 9] : List Int).map (Value.int .u8)⟩]
  have q7 := q6.trans p7
  have K := fit_ok lo _ 3 [1, 5, 9] _ (Nat.le_trans hlo (p0.trans q7).len) (RdI.lit (M := M6) (k := .u8) [1, 5, 9]) (by decide) 1 1
  rw [show sideN 1 = 8 by decide] at K
  refine Evp.ob K ?_
  rintro _ ⟨E, ce, M8, rfl, p8, hce, g8⟩
  have g8 : RdI M8 .u8 E (fitL [1, 5, 9] 64) := rdI_of' g8 (fitL_len _ _)
  simp only [ret_int, ret_bool, ret_flt, ret_slc, ret_str, ret_ptr, ret_agg, ret_tup, ob_some, bb_true, bb_false, List.getElem?_cons_zero, List.getElem?_cons_succ, List.length_cons, List.length_nil, Nat.reduceAdd, Nat.reduceLT]
  have q8 := q7.trans p8
  have C := cells_ok lo 8 8 4 false E 64 ce M8 (Nat.le_trans hlo (p0.trans q8).len) (by decide) (by decide) (by decide)
  refine Evp.ob C ?_
  rintro _ ⟨BT, BI, BQ, dt, di, dq, M9, rfl, p9, _, gt, gi, gq, ct, ci, cq⟩
  simp only [ret_int, ret_bool, ret_flt, ret_slc, ret_str, ret_ptr, ret_agg, ret_tup, ob_some, bb_true, bb_false, List.getElem?_cons_zero, List.getElem?_cons_succ, List.length_cons, List.length_nil, Nat.reduceAdd, Nat.reduceLT]
  have ct : 4 ≤ dt := ct
  have ci : 4 ≤ di := ci
  have cq : 4 ≤ dq := cq
  refine Evp.pos (by omega) (Evp.pos (by omega) (Evp.pos (by omega) ?_))
  have rt : RdI M9 .u8 BT [4, 4, 4, 4] := rdI_of' (xs := [4, 4, 4, 4]) gt rfl
  have ri : RdI M9 .i64 BI (idsL 2 1 4) := rdI_of' gi (idsL_len _ _ _)
  have rq : RdB M9 BQ [false, false, false, false] := rdB_of' (xs := [false, false, false, false]) gq rfl
  have q9 := q8.trans p9
  have hl := (p0.trans q9).len
  have f1 : (M9 ++ [⟨.op 0, []⟩, ⟨.op 0, []⟩] : Mem)[M9.length]? = some ⟨.op 0, []⟩ := by simp
  have f2 : (M9 ++ [⟨.op 0, []⟩, ⟨.op 0, []⟩] : Mem)[M9.length + 1]? = some ⟨.op 0, []⟩ := by simp
  have pa : Pre M9 (M9 ++ [⟨.op 0, []⟩, ⟨.op 0, []⟩]) := Pre.app _ _
  generalize (M9 ++ [⟨.op 0, []⟩, ⟨.op 0, []⟩] : Mem) = Ma at *
  refine Evp.some (fill_at f1 (by omega) (by decide)) ?_
  simp only []
  have pb := pa.set (Nat.le_refl _) (⟨.op 1, [.int .u8 4, .int .u8 4, .int .u8 5, .int .u8 4]⟩ : Blk)
  have g1 : (Ma.set M9.length ⟨.op 1, [.int .u8 4, .int .u8 4, .int .u8 5, .int .u8 4]⟩)[M9.length]? = some ⟨.op 1, [.int .u8 4, .int .u8 4, .int .u8 5, .int .u8 4]⟩ := set_self (lt_of_get f1)
  have f3 : (Ma.set M9.length ⟨.op 1, [.int .u8 4, .int .u8 4, .int .u8 5, .int .u8 4]⟩)[M9.length + 1]? = some ⟨.op 0, []⟩ := by rw [List.getElem?_set_ne (by omega)]; exact f2
  refine Evp.some (fill_at f3 (by omega) (by decide)) ?_
  simp only []
  have pc := pb.set (b := M9.length + 1) (by omega) (⟨.op 1, [.int .u8 64, .int .u8 64, .int .u8 64, .int .u8 64]⟩ : Blk)
  have g2 := set_self (k := ⟨.op 1, [.int .u8 64, .int .u8 64, .int .u8 64, .int .u8 64]⟩) (lt_of_get f3)
  have g3 : ((Ma.set M9.length ⟨.op 1, [.int .u8 4, .int .u8 4, .int .u8 5, .int .u8 4]⟩).set (M9.length + 1) ⟨.op 1, [.int .u8 64, .int .u8 64, .int .u8 64, .int .u8 64]⟩)[M9.length]? = some ⟨.op 1, [.int .u8 4, .int .u8 4, .int .u8 5, .int .u8 4]⟩ := by rw [List.getElem?_set_ne (by omega)]; exact g1
  refine Evp.ret ?_
  generalize ((Ma.set M9.length ⟨.op 1, [.int .u8 4, .int .u8 4, .int .u8 5, .int .u8 4]⟩).set (M9.length + 1) ⟨.op 1, [.int .u8 64, .int .u8 64, .int .u8 64, .int .u8 64]⟩) = Mc at *
  have F1 : RdI Mc .u8 (some ⟨M9.length, 0, some 4⟩) [4, 4, 5, 4] := op_rd (n := 4) (w := 1) (cs := [.int .u8 4, .int .u8 4, .int .u8 5, .int .u8 4]) g3 rfl
  have F2 : RdI Mc .u8 (some ⟨M9.length + 1, 0, some 4⟩) [64, 64, 64, 64] := op_rd (n := 4) (w := 1) (cs := [.int .u8 64, .int .u8 64, .int .u8 64, .int .u8 64]) g2 rfl
  have q10 := q9.trans pc
  have pd : ∀ k : Blk, Pre Mc (Mc ++ [k]) := fun k => Pre.app _ _
  refine names_maps lo M0 hlo _ _ 8 8 E 64 ce _ (fitL_bytes (byl (by decide)) 64) (fitL_len _ _) (by decide) _ (((g8.pre p9).pre pc).pre (pd _)) (push_self Mc _) (fun i hi => ?_) 8 0 _ rfl (by decide) ((p0.trans q10).trans (pd _)) (Pre.refl _)
  have RT := rt.pre pc
  have RI := ri.pre pc
  have RQ := rq.pre pc
  have LI : (idsL 2 1 4).length = 4 ∧ 4 ≤ 1000000 := ⟨rfl, by decide⟩
  have ST := RdI.slAddr (l := 0) (h := 3) (c := dt) RT (by omega) (by decide) ct
  have SI := RdI.slAddr (l := 0) (h := 3) (c := di) RI (by omega) (by decide) ci
  have SQ := RdB.slAddr (l := 0) (h := 3) (c := dq) RQ (by omega) (by decide) cq
  have k0 : 0 ≤ 1000000 := by decide
  have k3 : 3 ≤ 1000000 := by decide
  have k4 : 4 ≤ 1000000 := by decide
  have N0 : RdB Mc none [] := Rd.zero
  match i, hi with
  | 0, _ => exact ⟨⟨2, 2, BT, 4, dt, BI, 4, di, BQ, 4, dq, _, _, _⟩, ⟨rfl, rfl, rfl, rfl, rfl⟩, CM.Ok.pre ⟨RT, RI, RQ, ⟨rfl, k4⟩, LI, ⟨rfl, k4⟩⟩ (Pre.app Mc _)⟩
  | 1, _ => exact ⟨⟨0, 0, none, 0, 0, none, 0, 0, none, 0, 0, _, _, _⟩, ⟨rfl, rfl, rfl, rfl, rfl⟩, CM.Ok.pre ⟨RdI.nil, RdI.nil, N0, ⟨rfl, k0⟩, ⟨rfl, k0⟩, ⟨rfl, k0⟩⟩ (Pre.app Mc _)⟩
  | 2, _ => exact ⟨⟨2, 2, slAddr 1 BT 0 dt, 3, dt - 0, BI, 4, di, BQ, 4, dq, _, _, _⟩, ⟨rfl, rfl, rfl, rfl, rfl⟩, CM.Ok.pre ⟨ST, RI, RQ, ⟨rfl, k3⟩, LI, ⟨rfl, k4⟩⟩ (Pre.app Mc _)⟩
  | 3, _ => exact ⟨⟨2, 2, BT, 4, dt, slAddr 1 BI 0 di, 3, di - 0, BQ, 4, dq, _, _, _⟩, ⟨rfl, rfl, rfl, rfl, rfl⟩, CM.Ok.pre ⟨RT, SI, RQ, ⟨rfl, k4⟩, ⟨rfl, k3⟩, ⟨rfl, k4⟩⟩ (Pre.app Mc _)⟩
  | 4, _ => exact ⟨⟨2, 2, BT, 4, dt, BI, 4, di, slAddr 1 BQ 0 dq, 3, dq - 0, _, _, _⟩, ⟨rfl, rfl, rfl, rfl, rfl⟩, CM.Ok.pre ⟨RT, RI, SQ, ⟨rfl, k4⟩, LI, ⟨rfl, k3⟩⟩ (Pre.app Mc _)⟩
  | 5, _ => exact ⟨⟨2, 2, some ⟨M9.length, 0, some 4⟩, 4, 4, BI, 4, di, BQ, 4, dq, _, _, _⟩, ⟨rfl, rfl, rfl, rfl, rfl⟩, CM.Ok.pre ⟨F1, RI, RQ, ⟨rfl, k4⟩, LI, ⟨rfl, k4⟩⟩ (Pre.app Mc _)⟩
  | 6, _ => exact ⟨⟨4, 1, BT, 4, dt, BI, 4, di, BQ, 4, dq, _, _, _⟩, ⟨rfl, rfl, rfl, rfl, rfl⟩, CM.Ok.pre ⟨RT, RI, RQ, ⟨rfl, k4⟩, LI, ⟨rfl, k4⟩⟩ (Pre.app Mc _)⟩
  | 7, _ => exact ⟨⟨2, 2, some ⟨M9.length + 1, 0, some 4⟩, 4, 4, BI, 4, di, BQ, 4, dq, _, _, _⟩, ⟨rfl, rfl, rfl, rfl, rfl⟩, CM.Ok.pre ⟨F2, RI, RQ, ⟨rfl, k4⟩, LI, ⟨rfl, k4⟩⟩ (Pre.app Mc _)⟩
theorem names_fill (b : Addr) (cz : Nat) : ∀ (d i : Nat) (zs : List Int) (M : Mem), 128 - i = d → i ≤ 128 → Bytes zs → zs.length = 128 → Pre M0 M → Buf M0 M b (zs.map (Value.int .u8)) → Run P T lo F.zoetropelaw22_DeblockNames (zoetropelaw22_DeblockNames.c16372 i 32 4 (some b) 128 cz M) fun r => r.1 = .bool true := by
  intro d
  induction d with
  | zero =>
    intro i zs M hd hi bz hz p0 hb
    exact names_tail lo M0 hlo M zs bz hz b cz p0 hb i (by omega)
  | succ d ih =>
    intro i zs M hd hi bz hz p0 hb
    refine Run.cut (Evp.of_eq (fun k => zoetropelaw22_DeblockNames.p16372 k ..) ?_)
    refine Evp.dec (fun _ => ?_) fun h => absurd h (by omega)
    refine Evp.neg (by decide) (Evp.pos (by omega) (Evp.some rfl ?_))
    simp only [Int.toNat_natCast]
    generalize IntKind.i64.wrap ((IntKind.i64.wrap (Int.tdiv (Int.tmod (i : Int) 32) 16)) * 16) = v
    obtain ⟨M3, h1, h2, h3, h4, h5⟩ := hb.st (lo := lo) (i := i) (vs := [.int .u8 (IntKind.u8.wrap v)]) p0 hlo (by simp; omega)
    refine Evp.some h1 ?_
    rw [setL_one, set_map] at h2
    rw [w64 (by omega), show (i : Int) + 1 = ((i + 1 : Nat) : Int) by omega]
    exact Evp.ret (ih (i + 1) _ M3 (by omega) (by omega) (bz.set i (wrap8 v)) (by simpa using hz) h3 h2)
omit hlo in
theorem edges_names (A : Option Addr) (c n : Nat) (xs : List Int) (taps level sharp : Int) (M : Mem) (hl : lo ≤ M.length) (hx : RdI M .u8 A xs) (bx : Bytes xs) (hn : xs.length = n) (ln : n ≤ 1000000) : Ac P T lo F.zoetropelaw22_DeblockEdges [.slice A n c, .int .i64 taps, .agg ⟨[.int .i64 level, .int .i64 sharp]⟩] M fun r => ∃ M', r = (.bool true, M') ∧ Pre M M' := by
  subst hn
  exact edges_ok lo A c xs taps level sharp M hl hx bx (by omega)
omit hlo in
theorem Bytes.part {xs : List Int} (b : Bytes xs) (l n : Nat) : Bytes ((xs.drop l).take n) := fun z hz => b z (List.mem_of_mem_drop (List.mem_of_mem_take hz))
theorem names_copies (A : Option Addr) (c : Nat) (M1 : Mem) (hx : RdI M1 .u8 A n14) : ∀ (d i : Nat) (M : Mem), 14 - i = d → i ≤ 14 → Pre M0 M → Pre M1 M → Run P T lo F.zoetropelaw22_DeblockNames (zoetropelaw22_DeblockNames.c4084 A 14 c i M) fun r => r.1 = .bool true := by
  intro d
  induction d with
  | zero =>
    intro i M hd hi p0 p1
    refine Run.cut (Evp.of_eq (fun k => zoetropelaw22_DeblockNames.p4084 k ..) ?_)
    refine Evp.dec (fun h => absurd h (by omega)) fun _ => ?_
    have K := fit_ok lo none 0 [] M (Nat.le_trans hlo p0.len) RdI.nil (by decide) 7 0
    rw [show sideN 7 = 32 by decide, show sideN 0 = 4 by decide] at K
    refine Evp.ob K ?_
    rintro _ ⟨B, cb, M2, rfl, p2, hcb, g2⟩
    simp only [ret_int, ret_bool, ret_flt, ret_slc, ret_str, ret_ptr, ret_agg, ret_tup, ob_some, bb_true, bb_false, List.getElem?_cons_zero, List.getElem?_cons_succ, List.length_cons, List.length_nil, Nat.reduceAdd, Nat.reduceLT]
    obtain ⟨b, rfl, hb⟩ := g2.buf (by decide)
    exact Evp.ret (names_fill lo M0 hlo b cb _ 0 _ M2 rfl (by decide) (fitL_bytes (byl rfl) _) (fitL_len _ _) (p0.trans p2) (hb.floor p0.len))
  | succ d ih =>
    intro i M hd hi p0 p1
    refine Run.cut (Evp.of_eq (fun k => zoetropelaw22_DeblockNames.p4084 k ..) ?_)
    refine Evp.dec (fun _ => ?_) fun h => absurd h (by omega)
    have hl := p0.len
    have K := copyBytes_ok lo A c n14 M (hx.pre p1) (by decide) (Nat.le_trans hlo hl)
    rw [show n14.length = 14 from rfl] at K
    refine Evp.ob K ?_
    rintro _ ⟨B, cb, M2, rfl, p2, hcb, g2⟩
    simp only [ret_int, ret_bool, ret_flt, ret_slc, ret_str, ret_ptr, ret_agg, ret_tup, ob_some, bb_true, bb_false, List.getElem?_cons_zero, List.getElem?_cons_succ, List.length_cons, List.length_nil, Nat.reduceAdd, Nat.reduceLT]
    obtain ⟨b, rfl, hb⟩ := g2.buf (by decide)
    refine Evp.pos (by omega) ?_
    simp only [Int.toNat_natCast]
    refine Evp.ldI hb.rdI (show i < 14 by omega) fun _ _ => ?_
    refine Evp.pos (by omega) (Evp.some rfl ?_)
    generalize n14.getD i 0 + 2 = v
    obtain ⟨M3, h1, h2, h3, h4, h5⟩ := hb.st (lo := lo) (i := i) (vs := [.int .u8 (IntKind.u8.wrap v)]) p2 (Nat.le_trans hlo hl) (show i + 1 ≤ 14 by omega)
    refine Evp.some h1 ?_
    rw [setL_one, set_map] at h2
    have bz := n14_bytes.set i (wrap8 v)
    have lz : (n14.set i (IntKind.u8.wrap v)).length = 14 := by rw [List.length_set]; rfl
    generalize n14.set i (IntKind.u8.wrap v) = zs at *
    have rz : RdI M3 .u8 (some b) zs := h2.rdI
    refine Evp.ob (edges_names lo _ cb 14 zs 14 63 0 M3 (Nat.le_trans hlo (p0.trans h3).len) rz bz lz (by decide)) ?_
    rintro _ ⟨M4, rfl, p4⟩
    simp only [ret_int, ret_bool, ret_flt, ret_slc, ret_str, ret_ptr, ret_agg, ret_tup, ob_some, bb_true, bb_false, List.getElem?_cons_zero, List.getElem?_cons_succ, List.length_cons, List.length_nil, Nat.reduceAdd, Nat.reduceLT]
    refine Evp.ff rfl (Evp.pos (by omega) ?_)
    have sl := RdI.slAddr (l := 3) (h := 11) (c := cb) (rz.pre p4) (by decide) (by omega) (by omega)
    refine Evp.ob (edges_names lo _ _ 8 _ 8 63 0 M4 (Nat.le_trans hlo ((p0.trans h3).trans p4).len) sl (bz.part _ _) (by rw [List.length_take, List.length_drop]; omega) (by decide)) ?_
    rintro _ ⟨M5, rfl, p5⟩
    simp only [ret_int, ret_bool, ret_flt, ret_slc, ret_str, ret_ptr, ret_agg, ret_tup, ob_some, bb_true, bb_false, List.getElem?_cons_zero, List.getElem?_cons_succ, List.length_cons, List.length_nil, Nat.reduceAdd, Nat.reduceLT]
    refine Evp.ff rfl ?_
    rw [w64 (by omega), show (i : Int) + 1 = ((i + 1 : Nat) : Int) by omega]
    have q := (h3.trans p4).trans p5
    exact Evp.ret (ih (i + 1) M5 (by omega) (by omega) (p0.trans q) (p1.trans q))
theorem names_levels (A : Option Addr) (c : Nat) (hc : 14 ≤ c) (M1 : Mem) (hx : RdI M1 .u8 A n14) : ∀ (d : Nat) (i : Int) (M : Mem), (66 - i).toNat = d → -1 ≤ i → i ≤ 66 → Pre M0 M → Pre M1 M → Run P T lo F.zoetropelaw22_DeblockNames (zoetropelaw22_DeblockNames.c2036 A 14 c i M) fun r => r.1 = .bool true := by
  intro d
  induction d with
  | zero =>
    intro i M hd h1 h2 p0 p1
    refine Run.cut (Evp.of_eq (fun k => zoetropelaw22_DeblockNames.p2036 k ..) ?_)
    refine Evp.dec (fun h => absurd h (by omega)) fun _ => ?_
    exact Evp.ret (names_copies lo M0 hlo A c M1 hx _ 0 M rfl (by decide) p0 p1)
  | succ d ih =>
    intro i M hd h1 h2 p0 p1
    have n14l : n14.length = 14 := rfl
    refine Run.cut (Evp.of_eq (fun k => zoetropelaw22_DeblockNames.p2036 k ..) ?_)
    refine Evp.dec (fun _ => ?_) fun h => absurd h (by omega)
    refine Evp.pos (by omega) ?_
    have s1 := RdI.slAddr (l := 3) (h := 11) (c := c) (hx.pre p1) (by decide) (by decide) hc
    refine Evp.ob (edges_names lo _ _ 8 _ 8 i 0 M (Nat.le_trans hlo p0.len) s1 (n14_bytes.part _ _) (by rw [List.length_take, List.length_drop]; omega) (by decide)) ?_
    rintro _ ⟨M2, rfl, p2⟩
    simp only [ret_int, ret_bool, ret_flt, ret_slc, ret_str, ret_ptr, ret_agg, ret_tup, ob_some, bb_true, bb_false, List.getElem?_cons_zero, List.getElem?_cons_succ, List.length_cons, List.length_nil, Nat.reduceAdd, Nat.reduceLT]
    refine Evp.ff rfl (Evp.pos (by omega) ?_)
    have q2 := p1.trans p2
    have s2 := RdI.slAddr (l := 5) (h := 9) (c := c) (hx.pre q2) (by decide) (by decide) hc
    refine Evp.ob (edges_names lo _ _ 4 _ i 9 _ M2 (Nat.le_trans hlo (p0.trans p2).len) s2 (n14_bytes.part _ _) (by rw [List.length_take, List.length_drop]; omega) (by decide)) ?_
    rintro _ ⟨M3, rfl, p3⟩
    simp only [ret_int, ret_bool, ret_flt, ret_slc, ret_str, ret_ptr, ret_agg, ret_tup, ob_some, bb_true, bb_false, List.getElem?_cons_zero, List.getElem?_cons_succ, List.length_cons, List.length_nil, Nat.reduceAdd, Nat.reduceLT]
    refine Evp.ff rfl ?_
    have p4 := Pre.app M3 [⟨.fx, ([1, 2, 250, 9] : List Int).map (Value.int .u8)⟩]
    have q4 := (p2.trans p3).trans p4
    refine Evp.ob (edges_names lo _ 4 4 [1, 2, 250, 9] 4 i (Int.tmod i 8) _ (Nat.le_trans hlo (p0.trans q4).len) (RdI.lit (k := .u8) [1, 2, 250, 9]) (byl (by decide)) rfl (by decide)) ?_
    rintro _ ⟨M5, rfl, p5⟩
    simp only [ret_int, ret_bool, ret_flt, ret_slc, ret_str, ret_ptr, ret_agg, ret_tup, ob_some, bb_true, bb_false, List.getElem?_cons_zero, List.getElem?_cons_succ, List.length_cons, List.length_nil, Nat.reduceAdd, Nat.reduceLT]
    refine Evp.ff rfl ?_
    rw [w64 (by omega)]
    have q5 := q4.trans p5
    exact Evp.ret (ih (i + 1) M5 (by omega) (by omega) (by omega) (p0.trans q5) (p1.trans q5))
omit hlo in
theorem eq_names (A : Option Addr) (c n : Nat) (xs : List Int) (cells : List Value) (M : Mem) (hx : RdI M .u8 A xs) (hn : xs.length = n) (ln : n ≤ 1000) (hc : cells = xs.map (Value.int .u8)) : Ac P T lo F.zoetroperef00_EqBytes [.slice A n c, .slice (some ⟨M.length, 0, none⟩) n n] (M ++ [⟨.fx, cells⟩]) fun r => ∃ M', r = (.bool true, M') ∧ Pre M M' := by
  subst hn; subst hc
  refine Ac.mono (eqBytes_ok lo A (some ⟨M.length, 0, none⟩) c xs.length xs xs _ (hx.pre (Pre.app _ _)) (RdI.lit xs) (by omega)) ?_
  rintro _ rfl
  exact ⟨_, by rw [decide_eq_true rfl], Pre.app _ _⟩
def e14 : List Int := [0, 1, 2, 3, 4, 5, 7, 9, 11, 12, 13, 14, 15, 16]
theorem names_edges (a : Addr) (M : Mem) (p0 : Pre M0 M) (hb : Buf M0 M a (n14.map (Value.int .u8))) : Run P T lo F.zoetropelaw22_DeblockNames (zoetropelaw22_DeblockNames.c116 (some a) 14 14 (14 : Nat) M) fun r => r.1 = .bool true := by
  have hx : RdI M .u8 (some a) n14 := hb.rdI
  refine Run.cut (Evp.of_eq (fun k => zoetropelaw22_DeblockNames.p116 k ..) ?_)
  refine Evp.dec (fun h => absurd h (by omega)) fun _ => ?_
  refine Evp.ob (edge_ok lo _ 14 n14 M 63 0 14 (Nat.le_trans hlo p0.len) hx n14_bytes) ?_
  rintro ⟨v, M2⟩ h2
  obtain ⟨a2, c2, rfl, p2, b2⟩ := h2.got (by decide) e14 (by decide +kernel)
  simp only [ret_int, ret_bool, ret_flt, ret_slc, ret_str, ret_ptr, ret_agg, ret_tup, ob_some, bb_true, bb_false, List.getElem?_cons_zero, List.getElem?_cons_succ, List.length_cons, List.length_nil, Nat.reduceAdd, Nat.reduceLT]
  have p3 := Pre.app M2 [⟨.fx, ([8, 8, 8, 12, 12, 12] : List Int).map (Value.int .u8)⟩]
  have q3 := p2.trans p3
  refine Evp.ob (edge_ok lo _ 6 [8, 8, 8, 12, 12, 12] _ 63 0 6 (Nat.le_trans hlo (p0.trans q3).len) (RdI.lit (k := .u8) [8, 8, 8, 12, 12, 12]) (byl (by decide))) ?_
  rintro ⟨v, M4⟩ h4
  obtain ⟨a4, c4, rfl, p4, b4⟩ := h4.got (by decide) [8, 9, 10, 11, 12, 12] (by decide +kernel)
  simp only [ret_int, ret_bool, ret_flt, ret_slc, ret_str, ret_ptr, ret_agg, ret_tup, ob_some, bb_true, bb_false, List.getElem?_cons_zero, List.getElem?_cons_succ, List.length_cons, List.length_nil, Nat.reduceAdd, Nat.reduceLT]
  refine Evp.neb (fun e => absurd rfl e) fun _ => Evp.neb (fun e => absurd rfl e) fun _ => ?_
  have q4 := q3.trans p4
  refine Evp.ob (eq_names lo (some a2) c2 14 e14 _ M4 (b2.rdI.pre (p3.trans p4)) rfl (by decide) rfl) ?_
  rintro _ ⟨M5, rfl, p5⟩
  simp only [ret_int, ret_bool, ret_flt, ret_slc, ret_str, ret_ptr, ret_agg, ret_tup, ob_some, bb_true, bb_false, List.getElem?_cons_zero, List.getElem?_cons_succ, List.length_cons, List.length_nil, Nat.reduceAdd, Nat.reduceLT]
  refine Evp.ff rfl ?_
  refine Evp.ob (eq_names lo (some a4) c4 6 [8, 9, 10, 11, 12, 12] _ M5 (b4.rdI.pre p5) rfl (by decide) rfl) ?_
  rintro _ ⟨M6, rfl, p6⟩
  simp only [ret_int, ret_bool, ret_flt, ret_slc, ret_str, ret_ptr, ret_agg, ret_tup, ob_some, bb_true, bb_false, List.getElem?_cons_zero, List.getElem?_cons_succ, List.length_cons, List.length_nil, Nat.reduceAdd, Nat.reduceLT]
  refine Evp.ff rfl ?_
  have q6 := (q4.trans p5).trans p6
  exact Evp.ret (names_levels lo M0 hlo (some a) 14 (by decide) _ (hx.pre q6) _ (-1) _ rfl (by decide) (by decide) (p0.trans q6) (Pre.refl _))
theorem names_start (a : Addr) : ∀ (d i : Nat) (M : Mem), 14 - i = d → 7 ≤ i → i ≤ 14 → Pre M0 M → Buf M0 M a ((l16 i).map (Value.int .u8)) → Run P T lo F.zoetropelaw22_DeblockNames (zoetropelaw22_DeblockNames.c116 (some a) 14 14 i M) fun r => r.1 = .bool true := by
  intro d
  induction d with
  | zero =>
    intro i M hd h7 hi p0 hb
    obtain rfl : i = 14 := by omega
    exact names_edges lo M0 hlo a M p0 hb
  | succ d ih =>
    intro i M hd h7 hi p0 hb
    refine Run.cut (Evp.of_eq (fun k => zoetropelaw22_DeblockNames.p116 k ..) ?_)
    refine Evp.dec (fun _ => ?_) fun h => absurd h (by omega)
    refine Evp.pos (by omega) (Evp.some rfl ?_)
    simp only [Int.toNat_natCast]
    obtain ⟨M3, h1, h2, h3, h4, h5⟩ := hb.st (lo := lo) (i := i) (vs := [.int .u8 16]) p0 hlo (show i + 1 ≤ 14 by omega)
    refine Evp.some h1 ?_
    rw [setL_one, set_map] at h2
    have e : ∀ i, i < 14 → 7 ≤ i → (l16 i).set i 16 = l16 (i + 1) := by decide
    rw [e i (by omega) h7] at h2
    rw [w64 (by omega), show (i : Int) + 1 = ((i + 1 : Nat) : Int) by omega]
    exact Evp.ret (ih (i + 1) M3 (by omega) (by omega) (by omega) h3 h2)
end
theorem DeblockNames_law (M : Mem) (vs : List Value) (hro : AllRo M) (hv : LaysArgs P M [] vs) : Ac P T M.length F.zoetropelaw22_DeblockNames vs M fun r => r.1 = .bool true := by
  obtain rfl := Arg.DeblockNames hv
  refine Ac.of (Evp.of_eq (fun k => zoetropelaw22_DeblockNames.entry k ..) ?_)
  refine Evp.pos (by decide) ?_
  rw [z14]
  exact Evp.ret (names_start M.length M (Nat.le_refl _) _ _ 7 _ rfl (by decide) (by decide) (Pre.app _ _) (Buf.push (Pre.refl M)))
end Go.Zt
