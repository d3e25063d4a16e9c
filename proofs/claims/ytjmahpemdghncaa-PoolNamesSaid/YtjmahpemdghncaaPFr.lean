/- What the law PoolNames needs of the text Fr. -/
import Derived.Test.YtjmahpemdghncaaPFq
set_option linter.unusedVariables false
set_option linter.unusedSimpArgs false
set_option maxRecDepth 100000
namespace Go.Zt
def FirstW (M0 M : Mem) (l' : Nat) (A : Option Addr) (rows : List (List Tb)) : Prop := ∃ row t a ar cr ac cc, rows[0]? = some row ∧ row[0]? = some t ∧ t.1.length ≠ 0 ∧ A = some a ∧ M.ld a = some (.slice (some ar) row.length cr) ∧ M.ld ar = some (.slice (some ac) t.1.length cc) ∧ Buf M0 M ac (t.1.map (Value.int .u16)) ∧ M0.length ≤ a.block ∧ M0.length ≤ ar.block ∧ ac.block < l'
theorem ld_keep {M M' : Mem} {a : Addr} {v : Value} (h : M.ld a = some v) (hk : ∀ k, M[a.block]? = some k → M'[a.block]? = some k) : M'.ld a = some v := by
  have hb : a.block < M.length := by
    rcases Nat.lt_or_ge a.block M.length with hb | hb
    · exact hb
    · unfold Mem.ld at h; rw [List.getElem?_eq_none hb] at h; cases h
  have e : M'[a.block]? = M[a.block]? := by rw [List.getElem?_eq_getElem hb]; exact hk _ (List.getElem?_eq_getElem hb)
  unfold Mem.ld at h ⊢
  rw [e]; exact h
theorem FirstW.keepS {M0 M M' : Mem} {l' : Nat} {A : Option Addr} {rows : List (List Tb)} (h : FirstW M0 M l' A rows) (hk : KeepS (fun x => M0.length ≤ x) M M') : FirstW M0 M' l' A rows := by
  obtain ⟨row, t, a, ar, cr, ac, cc, h1, h2, h3, q1, q2, q3, ⟨k, z1, z2, z3, z4⟩, q5, q6, q7⟩ := h
  exact ⟨row, t, a, ar, cr, ac, cc, h1, h2, h3, q1, ld_keep q2 fun k hk' => hk _ _ q5 hk', ld_keep q3 fun k hk' => hk _ _ q6 hk', ⟨k, z1, z2, hk _ _ z2 z3, z4⟩, q5, q6, q7⟩
def SmallS (rows : List (List Tb)) : Prop := ∀ row ∈ rows, row.length ≤ 1000 ∧ ∀ t ∈ row, t.1.length ≤ 1000
section
variable (lo : Nat)
theorem rwriter_ok (S : Nat → Prop) (M : Mem) (A : Option Addr) (c : Nat) (hlo : lo ≤ M.length) (hs : SetIs S M A defSet) :
    Ac P T lo F.zoetroperef04_Writer [.agg ⟨[.slice A 32 c]⟩, .bool true] M fun r => ∃ v M', r = (.tuple ⟨[.pointer (some ⟨v.wb, 0, none⟩), .int .i64 0]⟩, M') ∧ Pre M M' ∧ CodIs M M' v ∧ v.t = tabN 0 ∧ v.n = 0 ∧ v.N = 0 := by
  have hl : defSet.length = 32 := by simp [defSet]
  have hne := defSet_ok.ne
  have e32 : (32 : Nat) = defSet.length := hl.symm
  refine Ac.of (Evp.of_eq (fun k => zoetroperef04_Writer.entry k ..) ?_)
  rw [e32]
  refine Evp.ob (rscheck_ok lo S A c defSet M hs fun row hrow => by have := (hne.2 row hrow).2.1; omega) ?_
  rintro _ ⟨M1, rfl, p1⟩
  simp only [ret_int, ret_bool, ret_flt, ret_slc, ret_str, ret_ptr, ret_agg, ret_tup, ob_some, bb_true, bb_false, List.getElem?_cons_zero, List.getElem?_cons_succ, List.length_cons, List.length_nil, Nat.reduceAdd, Nat.reduceLT]
  refine Evp.neb (fun h => absurd (by unfold setS; rw [if_pos defSet_ok]) h) fun _ => ?_
  have l1 := p1.len
  have hnew : Ac P T M1.length F.zoetroperef02_New [] M1 fun r => r = (.pointer (some ⟨M1.length, 0, none⟩), (M1 ++ [⟨.fx, [.slice none 0 0, .int .u64 0, .int .u64 4294967295]⟩] : Mem)) := by
    refine Ac.of (Evp.of_eq (fun k => zoetroperef02_New.entry k ..) ?_)
    exact Evp.ret (Run.ret rfl)
  refine Evp.ob hnew ?_
  rintro _ rfl
  simp only [ret_int, ret_bool, ret_flt, ret_slc, ret_str, ret_ptr, ret_agg, ret_tup, ob_some, bb_true, bb_false, List.getElem?_cons_zero, List.getElem?_cons_succ, List.length_cons, List.length_nil, Nat.reduceAdd, Nat.reduceLT]
  have p2 : Pre M1 (M1 ++ [⟨.fx, [.slice none 0 0, .int .u64 0, .int .u64 4294967295]⟩] : Mem) := Pre.app _ _
  have g2 : (M1 ++ [⟨.fx, [.slice none 0 0, .int .u64 0, .int .u64 4294967295]⟩] : Mem)[M1.length]? = _ := push_self _ _
  have l2 : (M1 ++ [⟨.fx, [.slice none 0 0, .int .u64 0, .int .u64 4294967295]⟩] : Mem).length = M1.length + 1 := by simp
  obtain ⟨M2, e2⟩ : ∃ M2 : Mem, M2 = M1 ++ [⟨.fx, [.slice none 0 0, .int .u64 0, .int .u64 4294967295]⟩] := ⟨_, rfl⟩
  rw [← e2] at p2 g2 l2 ⊢
  refine Evp.ob (rcopyG_ok lo S A c defSet M2 (by omega) ((hs.pre p1).pre p2) defSet_ok) ?_
  rintro _ ⟨A3, m1, vs, M3, rfl, p3, hg⟩
  simp only [ret_int, ret_bool, ret_flt, ret_slc, ret_str, ret_ptr, ret_agg, ret_tup, ob_some, bb_true, bb_false, List.getElem?_cons_zero, List.getElem?_cons_succ, List.length_cons, List.length_nil, Nat.reduceAdd, Nat.reduceLT]
  have l3 := p3.len
  obtain ⟨a, rfl, ba⟩ := hg.g.buf (by omega)
  have p4 : Pre M3 (M3 ++ [⟨.fx, [.pointer (some ⟨M1.length, 0, none⟩), .pointer none, .slice (some a) defSet.length defSet.length, .bool true, .int .i64 0]⟩] : Mem) := Pre.app _ _
  have r0 := hg.r 0 (defRow 0) (defSet_get (by decide))
  obtain ⟨a0, c0, us, q1, q2, q3, ⟨q4, q5, _⟩, q6⟩ := r0
  have n0 : a0.block < m1 := q5 rfl
  have na0 := q2.new
  have ia0 := q2.in_
  have naa := ba.new
  have iaa := ba.in_
  have ne0 : a0.block ≠ a.block := q4 a rfl
  obtain ⟨ac, cc, t1, t2, t3, ⟨⟨t4, t5, _⟩, t6⟩⟩ := q6 0 (defT 0) (by unfold defRow; rw [List.getElem?_replicate, if_pos (by decide)])
  have nac := t3.new
  have iac := t3.in_
  have neac : ac.block ≠ a.block := t4 a rfl
  have hlen := hg.g.len
  refine Evp.ret (Run.ret ⟨⟨M1.length, M3.length, none, 0, 0, 0, 4294967295, a, vs, a0, c0, us, ac, cc, defT 0, 0, M2.length, M3.length⟩, _, rfl, ((p1.trans p2).trans p3).trans p4, ?_, rfl, rfl, rfl⟩)
  rw [hl] at p4 ⊢
  refine ⟨⟨((p1.trans p2).trans p3).trans p4, l1, p4 _ _ (p3 _ _ g2), ⟨[], Grow.nil⟩, fun x e => (by cases e)⟩, (by show (16777216 : Int) ≤ 4294967295 ∧ (4294967295 : Int) < 4294967296; decide), push_self _ _, ⟨l1, (by show M1.length < M2.length; omega), l3, Nat.le_refl _⟩, fun x e => (by cases e), (ba.floor (by omega)).pre p4, (by show vs.length = 32; omega), ⟨naa, iaa⟩, ?_, (q2.floor (by omega)).pre p4, ?_, ⟨na0, ia0, ne0⟩, ?_, ?_, (t3.floor (by omega)).pre p4, ⟨(by show ac.block ≠ M1.length; omega), (by show ac.block ≠ M3.length; omega), neac, t6, fun x e => (by cases e)⟩, fun j t hj ht => ?_, fun k row hk hr => ?_⟩
  · have : (defRow 0).length = 8 := defRow0_len
    rw [this] at q1; exact q1
  · have : (defRow 0).length = 8 := defRow0_len
    show us.length = 16
    omega
  · exact t1
  · exact t2
  · have h1 := (((q6 j t ht).floor (M0 := M) (by omega)).pre p4)
    have h2 : TabW (fun b => M2.length ≤ b ∧ b < M3.length ∧ b ≠ a.block ∧ b ≠ a0.block) M M3 us j t := by
      obtain ⟨x, y, z1, z2, z3, z4⟩ := q6 j t ht
      exact ⟨x, y, z1, z2, z3.floor (by omega), z3.new, z3.in_, z4.1.1 a rfl, z4.2⟩
    exact h2.pre p4
  · obtain ⟨x, y, w, z1, z2, z3, z4, z5⟩ := hg.r k row hr
    have h2 : RowW (fun b => M2.length ≤ b ∧ b < M3.length ∧ b ≠ a.block ∧ b ≠ a0.block) M M3 vs k row := by
      refine ⟨x, y, w, z1, z2.floor (by omega), z3, ⟨z2.new, z2.in_, z4.1 a rfl, by have := z4.2.2 hk; omega⟩, fun j t hj => ?_⟩
      obtain ⟨x', y', u1, u2, u3, u4⟩ := z5 j t hj
      exact ⟨x', y', u1, u2, u3.floor (by omega), ⟨u3.new, u3.in_, u4.1.1 a rfl, by have := u4.1.2.2 hk; omega⟩, u4.2⟩
    exact h2.pre p4
theorem CodIs.first {M0 M : Mem} {v : CodV} (h : CodIs M0 M v) (ht : v.t.1.length ≠ 0) : FirstW M0 M M.length (some v.a) (codSet v.t) := by
  have hl : (v.t :: (defRow 0).tail).length = 8 := by simp [defRow0_len]
  obtain ⟨a', e, _, l1⟩ := (h.ba.rd (n := 32) (z := 1) (by rw [h.la])).get (i := 0) (by omega)
  injection e with e; subst e
  obtain ⟨a', e, _, l2⟩ := (h.b0.rd (n := 8) (z := 2) (by rw [h.l0])).get (i := 0) (by omega)
  injection e with e; subst e
  exact ⟨_, v.t, v.a, v.a0, v.c0, v.ac, v.cc, rfl, rfl, ht, rfl, by rw [hl]; rw [h.e0] at l1; exact l1, by rw [h.t0] at l2; exact l2, h.bc, h.ba.new, h.b0.new, h.bc.in_⟩
theorem SmallS.of {rows : List (List Tb)} (h : ∀ (k : Nat) (row : List Tb), rows[k]? = some row → row.length ≤ 1000 ∧ ∀ (j : Nat) (t : Tb), row[j]? = some t → t.1.length ≤ 1000) : SmallS rows := fun row hr => by
  obtain ⟨k, hk⟩ := List.getElem?_of_mem hr
  have := h k row hk
  refine ⟨this.1, fun t ht => ?_⟩
  obtain ⟨j, hj⟩ := List.getElem?_of_mem ht
  exact this.2 j t hj
theorem codSet_small {t : Tb} (ht : t.1.length = 10) : SmallS (codSet t) := SmallS.of fun k row hk => by
  have hd := defSet_ok.ne
  have hr0 : ∀ row, row ∈ defSet → row.length ≤ 1000 ∧ ∀ t ∈ row, t.1.length ≤ 1000 := fun row hr => ⟨(hd.2 row hr).2.1, fun t ht => ((hd.2 row hr).2.2 t ht).2⟩
  by_cases e : k = 0
  · subst e
    injection hk with hk
    subst hk
    refine ⟨by simp [defRow0_len], fun j t' hj => ?_⟩
    by_cases e : j = 0
    · subst e; injection hj with hj; subst hj; omega
    · rw [codSet_tab _ e] at hj
      exact (hr0 _ (List.mem_of_getElem? (defSet_get (k := 0) (by decide)))).2 _ (List.mem_of_getElem? hj)
  · rw [codSet_row _ e] at hk
    have := hr0 _ (List.mem_of_getElem? hk)
    exact ⟨this.1, fun j t' hj => this.2 _ (List.mem_of_getElem? hj)⟩
def SetR (M : Mem) (r : Value × Mem) : Prop := ∃ A rows c M', r = (.agg ⟨[.slice A rows.length c]⟩, M') ∧ Pre M M' ∧ SetIs (fun b => M.length ≤ b) M' A rows ∧ SmallS rows ∧ FirstW M M' M'.length A rows
theorem set_tail (M0 : Mem) (hlo : lo ≤ M0.length) (x3 x4 x5 x6 x7 x8 x9 x10 : Int) (y : Int) (hy : 0 ≤ y ∧ y ≤ 7) (hx : andI .i64 x8 7 = y) : ∀ (d s : Nat) (M : Mem) (v : CodV), y.toNat - s = d → (s : Int) ≤ y → CodIs M0 M v → v.t = tabN s → v.n ≤ 2 * s → v.N = (s : Int) →
    Run P T lo F.zoetropelaw26_Do_set (zoetropelaw26_Do_set.c116 (some ⟨v.wb, 0, none⟩) (s : Int) x3 x4 x5 x6 x7 x8 x9 x10 none 0 0 M) (SetR M0) := by
  intro d
  induction d with
  | zero =>
    intro s M v hd hs h ht hn hN
    refine Run.cut (Evp.of_eq (fun k => zoetropelaw26_Do_set.p116 k ..) ?_)
    rw [hx]
    refine Evp.dec (fun q => absurd q (by omega)) fun _ => ?_
    have t10 : v.t.1.length = 10 := by rw [ht]; exact tabN_len s
    have w2 : (M.ld (plus ⟨v.wb, 0, none⟩ 2)).bind Value.slc? = some ⟨some v.a, 32, 32⟩ := by rw [fx_ldp h.w]; rfl
    refine Evp.eqb (fun _ => ?_) fun _ => Evp.ret ?_
    · rw [nilp_some]
      refine Evp.some w2 (Evp.pos (by dsimp only; omega) ?_)
      rw [nilp_some]
      have o := h.ord
      refine Evp.some (fx_st h.w (by omega) (by simp)) (Evp.ret ?_)
      have e1 : slAddr 1 (some v.a) 1 32 = some (plus v.a 1) := rfl
      dsimp only
      rw [e1]
      have hnb : ∀ b, v.L0 ≤ b ∧ b < v.L1 → b ≠ v.wb := fun b hb => by omega
      have kE : Keep (some ⟨v.wb, 0, none⟩) M (M.set v.wb ⟨.fx, [.pointer (some ⟨v.eb, 0, none⟩), .pointer none, .slice (some (plus v.a 1)) 31 31, .bool true, .int .i64 v.N]⟩) := fun b k hk hne => by rw [List.getElem?_set_ne (hne _ rfl)]; exact hk
      have gw : (M.set v.wb ⟨.fx, [.pointer (some ⟨v.eb, 0, none⟩), .pointer none, .slice (some (plus v.a 1)) 31 31, .bool true, .int .i64 v.N]⟩ : Mem)[v.wb]? = _ := set_self (lt_of_get h.w)
      have pw : Pre M0 (M.set v.wb ⟨.fx, [.pointer (some ⟨v.eb, 0, none⟩), .pointer none, .slice (some (plus v.a 1)) 31 31, .bool true, .int .i64 v.N]⟩) := h.enc.pre.set (by omega) _
      obtain ⟨M', eM⟩ : ∃ M' : Mem, M' = M.set v.wb ⟨.fx, [.pointer (some ⟨v.eb, 0, none⟩), .pointer none, .slice (some (plus v.a 1)) 31 31, .bool true, .int .i64 v.N]⟩ := ⟨_, rfl⟩
      rw [← eM] at kE gw pw
      show Run P T lo F.zoetropelaw26_Do_set (zoetropelaw26_Do_set.c31 (some ⟨v.wb, 0, none⟩) none 0 0 (M.set v.wb ⟨.fx, [.pointer (some ⟨v.eb, 0, none⟩), .pointer none, .slice (some (plus v.a 1)) 31 31, .bool true, .int .i64 v.N]⟩)) (SetR M0)
      rw [← eM]
      refine Run.cut (Evp.of_eq (fun k => zoetropelaw26_Do_set.p31 k ..) ?_)
      rw [nilp_some]
      refine Evp.some (b := ⟨some (plus v.a 1), 31, 31⟩) (by rw [fx_ldp gw]; rfl) (Evp.ret (Run.ret ?_))
      have ra := h.ra
      have ba : Buf M0 M' v.a v.vs := h.ba.keep kE fun y e => by injection e with e; subst e; show v.wb ≠ v.a.block; omega
      have hrows : ∀ k row, k ≠ 0 → defSet[k]? = some row → RowW v.S M0 M' v.vs k row := fun k row hk hr => (h.rows k row hk hr).keep kE fun y e q => by injection e with e; subst e; have := q.2.1; simp only at this; omega
      have hdl : defSet.length = 32 := by simp [defSet]
      have htl : defSet.tail.length = 31 := by rw [List.length_tail, hdl]
      have hd := defSet_ok.ne
      have rdA : Rd M' (some (plus v.a 1)) 31 1 (v.vs.drop 1) := by
        have := (ba.rd (n := 32) (z := 1) (by rw [h.la])).part (l := 1) (h := 32) (by omega) (by omega)
        rw [List.take_of_length_le (by rw [List.length_drop, h.la]; decide)] at this
        exact this
      refine ⟨some (plus v.a 1), defSet.tail, 31, M', by rw [htl], pw, ⟨fun a e => ?_, v.vs.drop 1, by rw [htl]; exact rdA, fun k row hk => ?_⟩, fun row hr => ?_, ?_⟩
      · injection e with e; subst e; rw [plus_eq]; exact ba.new
      · rw [List.getElem?_tail] at hk
        have := (hrows (k + 1) row (by omega) hk).at_
        obtain ⟨B, cB, z1, z2⟩ := this
        exact ⟨B, cB, by rw [List.getElem?_drop, Nat.add_comm]; exact z1, z2⟩
      · have hr := List.mem_of_mem_tail hr
        exact ⟨(hd.2 row hr).2.1, fun t ht => ((hd.2 row hr).2.2 t ht).2⟩
      · obtain ⟨row, hr⟩ : ∃ row, defSet[1]? = some row := ⟨_, defSet_get (by decide)⟩
        have hmem := List.mem_of_getElem? hr
        obtain ⟨t, ht'⟩ : ∃ t, row[0]? = some t := ⟨_, List.getElem?_eq_getElem (by have := (hd.2 row hmem).1; omega)⟩
        have htl := ((hd.2 row hmem).2.2 t (List.mem_of_getElem? ht')).1
        obtain ⟨ar, cr, us, z1, z2, z3, z4, z5⟩ := hrows 1 row (by omega) hr
        obtain ⟨ac, cc, u1, u2, u3, u4⟩ := z5 0 t ht'
        obtain ⟨a', e, _, l1⟩ := (ba.rd (n := 32) (z := 1) (by rw [h.la])).get (i := 1) (by omega)
        injection e with e; subst e
        have hrl := (List.getElem?_eq_some_iff.1 ht').1
        obtain ⟨a', e, _, l2⟩ := (z2.rd (n := row.length) (z := 2) z3).get (i := 0) (by omega)
        injection e with e; subst e
        exact ⟨row, t, plus v.a 1, ar, cr, ac, cc, by rw [List.getElem?_tail]; exact hr, ht', htl, rfl, by rw [l1]; exact z1, by rw [show ar = plus ar 0 from rfl, l2]; exact u1, u3, by rw [plus_eq]; exact ba.new, z2.new, u3.in_⟩
    · refine Run.cut (Evp.of_eq (fun k => zoetropelaw26_Do_set.p31 k ..) ?_)
      rw [nilp_some]
      refine Evp.some w2 (Evp.ret (Run.ret ?_))
      exact ⟨some v.a, codSet v.t, 32, M, by rw [codSet_len], h.enc.pre, h.set, codSet_small t10, h.first (by omega)⟩
  | succ d ih =>
    intro s M v hd hs h ht hn hN
    refine Run.cut (Evp.of_eq (fun k => zoetropelaw26_Do_set.p116 k ..) ?_)
    rw [hx]
    refine Evp.dec (fun _ => ?_) fun q => absurd q (by omega)
    refine Evp.ob (symbol_ok lo M0 M v s hlo h (by omega) ht (by omega) hN) ?_
    rintro _ ⟨v', M', rfl, h', q1, q2, q3, q4⟩
    simp only [ret_int, ret_bool, ret_flt, ret_slc, ret_str, ret_ptr, ret_agg, ret_tup, ob_some, bb_true, bb_false, List.getElem?_cons_zero, List.getElem?_cons_succ, List.length_cons, List.length_nil, Nat.reduceAdd, Nat.reduceLT]
    rw [w64 (x := (s : Int) + 1) (by omega), ← q4]
    exact Evp.ret (ih (s + 1) M' v' (by omega) (by omega) h' q1 (by omega) q3)
theorem mset_ok (M : Mem) (hlo : lo ≤ M.length) (x1 x2 x3 x4 x5 x6 x7 x8 : Int) : Ac P T lo F.zoetropelaw26_Do_set [.agg ⟨[.int .i64 x1, .int .i64 x2, .int .i64 x3, .int .i64 x4, .int .i64 x5, .int .i64 x6, .int .i64 x7, .int .i64 x8]⟩] M (SetR M) := by
  refine Ac.of (Evp.of_eq (fun k => zoetropelaw26_Do_set.entry k ..) ?_)
  refine Evp.ob (rdefault_ok lo M hlo) ?_
  rintro _ ⟨A, c, M1, rfl, p1, hs⟩
  simp only [ret_int, ret_bool, ret_flt, ret_slc, ret_str, ret_ptr, ret_agg, ret_tup, ob_some, bb_true, bb_false, List.getElem?_cons_zero, List.getElem?_cons_succ, List.length_cons, List.length_nil, Nat.reduceAdd, Nat.reduceLT]
  have l1 := p1.len
  refine Evp.ob (rwriter_ok lo _ M1 A c (by omega) hs) ?_
  rintro _ ⟨v, M2, rfl, p2, h, ht, hn, hN⟩
  simp only [ret_int, ret_bool, ret_flt, ret_slc, ret_str, ret_ptr, ret_agg, ret_tup, ob_some, bb_true, bb_false, List.getElem?_cons_zero, List.getElem?_cons_succ, List.length_cons, List.length_nil, Nat.reduceAdd, Nat.reduceLT]
  have ha := and_mask (x := x6) 3 (by omega)
  rw [show ((2 : Int) ^ 3 - 1) = 7 from rfl, show ((2 : Int) ^ 3) = 8 from rfl] at ha
  refine Evp.ret ((set_tail lo M1 (by omega) x1 x2 x3 x4 x5 x6 x7 x8 (x6 % 8) (by omega) ha _ 0 M2 v rfl (by omega) h ht (by omega) (by rw [hN]; rfl)).mono ?_)
  rintro r ⟨B, rows, cB, M', rfl, q1, q2, q3, q4⟩
  obtain ⟨row, t, a, ar, cr, ac, cc, h1, h2, h3, z1, z2, z3, z4, z5, z6, z7⟩ := q4
  exact ⟨B, rows, cB, M', rfl, p1.trans q1, q2.mono fun b hb => by omega, q3, row, t, a, ar, cr, ac, cc, h1, h2, h3, z1, z2, z3, z4.floor l1, by omega, by omega, z7⟩
end
end Go.Zt
