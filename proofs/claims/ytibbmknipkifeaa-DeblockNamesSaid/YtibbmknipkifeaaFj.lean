/- What an edge becomes is the document's. -/
import Derived.Test.YtibbmknipkifeaaFi
set_option linter.unusedVariables false
set_option linter.unusedSimpArgs false
set_option maxRecDepth 100000
namespace Go.Zt
theorem EdgeR.got {M M' : Mem} {xs : List Int} {taps level sharp : Int} {v : Value} (h : EdgeR M xs taps level sharp (v, M')) (hk : EdgeOk xs.length taps level sharp) (zs : List Int) (hz : edgeL xs level sharp = zs) :
    ∃ a cc, v = .tuple ⟨[.slice (some a) xs.length cc, .int .i64 0]⟩ ∧ Pre M M' ∧ Buf M M' a (zs.map (Value.int .u8)) := by
  obtain ⟨p, h⟩ := h
  rw [if_pos hk] at h
  obtain ⟨a, cc, e, b⟩ := h
  exact ⟨a, cc, e, p, by rw [← hz]; exact b⟩
theorem byl {l : List Int} (h : l.all (fun x => decide (0 ≤ x) && decide (x ≤ 255)) = true) : Bytes l := fun x hx => by
  have := List.all_eq_true.1 h x hx
  simpa using this
theorem awake_ok (lo : Nat) (M : Mem) (hlo : lo ≤ M.length) : Ac P T lo F.zoetropelaw22_awake [] M fun r => r.1 = .bool true ∧ Pre M r.2 := by
  have p1 := Pre.app M [⟨.fx, ([10, 10, 20, 20] : List Int).map (Value.int .u8)⟩]
  refine Ac.of (Evp.of_eq (fun k => zoetropelaw22_awake.entry k ..) ?_)
  refine Evp.ob (edge_ok lo _ 4 [10, 10, 20, 20] _ 32 0 4 (Nat.le_trans hlo p1.len) (RdI.lit (k := .u8) [10, 10, 20, 20]) (byl rfl)) ?_
  rintro ⟨v, M2⟩ h2
  obtain ⟨a2, c2, rfl, p2, b2⟩ := h2.got (by decide) [12, 14, 16, 18] (by decide +kernel)
  simp only [ret_int, ret_bool, ret_flt, ret_slc, ret_str, ret_ptr, ret_agg, ret_tup, ob_some, bb_true, bb_false, List.getElem?_cons_zero, List.getElem?_cons_succ, List.length_cons, List.length_nil, Nat.reduceAdd, Nat.reduceLT]
  have p3 := Pre.app M2 [⟨.fx, ([8, 8, 8, 8, 12, 12, 12, 12] : List Int).map (Value.int .u8)⟩]
  have q3 := (p1.trans p2).trans p3
  refine Evp.ob (edge_ok lo _ 8 [8, 8, 8, 8, 12, 12, 12, 12] _ 63 0 8 (Nat.le_trans hlo q3.len) (RdI.lit (k := .u8) [8, 8, 8, 8, 12, 12, 12, 12]) (byl rfl)) ?_
  rintro ⟨v, M4⟩ h4
  obtain ⟨a4, c4, rfl, p4, b4⟩ := h4.got (by decide) [8, 9, 9, 10, 11, 11, 12, 12] (by decide +kernel)
  simp only [ret_int, ret_bool, ret_flt, ret_slc, ret_str, ret_ptr, ret_agg, ret_tup, ob_some, bb_true, bb_false, List.getElem?_cons_zero, List.getElem?_cons_succ, List.length_cons, List.length_nil, Nat.reduceAdd, Nat.reduceLT]
  have p5 := Pre.app M4 [⟨.fx, ([10, 10, 90, 90] : List Int).map (Value.int .u8)⟩]
  have q5 := (q3.trans p4).trans p5
  refine Evp.ob (edge_ok lo _ 4 [10, 10, 90, 90] _ 8 0 4 (Nat.le_trans hlo q5.len) (RdI.lit (k := .u8) [10, 10, 90, 90]) (byl rfl)) ?_
  rintro ⟨v, M6⟩ h6
  obtain ⟨a6, c6, rfl, p6, b6⟩ := h6.got (by decide) [10, 10, 90, 90] (by decide +kernel)
  simp only [ret_int, ret_bool, ret_flt, ret_slc, ret_str, ret_ptr, ret_agg, ret_tup, ob_some, bb_true, bb_false, List.getElem?_cons_zero, List.getElem?_cons_succ, List.length_cons, List.length_nil, Nat.reduceAdd, Nat.reduceLT]
  refine Evp.tt rfl (Evp.tt rfl (Evp.tt rfl ?_))
  have p7 := Pre.app M6 [⟨.fx, ([12, 14, 16, 18] : List Int).map (Value.int .u8)⟩]
  refine Evp.ob (eqBytes_ok _ _ _ _ _ _ _ _ (b2.rdI.pre ((((p3.trans p4).trans p5).trans p6).trans p7)) (RdI.lit (k := .u8) [12, 14, 16, 18]) (by decide)) ?_
  rintro _ rfl
  simp only [ret_int, ret_bool, ret_flt, ret_slc, ret_str, ret_ptr, ret_agg, ret_tup, ob_some, bb_true, bb_false, List.getElem?_cons_zero, List.getElem?_cons_succ, List.length_cons, List.length_nil, Nat.reduceAdd, Nat.reduceLT]
  refine Evp.tt rfl ?_
  have p8 := Pre.app (M6 ++ [⟨.fx, ([12, 14, 16, 18] : List Int).map (Value.int .u8)⟩]) [⟨.fx, ([8, 9, 9, 10, 11, 11, 12, 12] : List Int).map (Value.int .u8)⟩]
  refine Evp.ob (eqBytes_ok _ _ _ _ _ _ _ _ (b4.rdI.pre (((p5.trans p6).trans p7).trans p8)) (RdI.lit (k := .u8) [8, 9, 9, 10, 11, 11, 12, 12]) (by decide)) ?_
  rintro _ rfl
  simp only [ret_int, ret_bool, ret_flt, ret_slc, ret_str, ret_ptr, ret_agg, ret_tup, ob_some, bb_true, bb_false, List.getElem?_cons_zero, List.getElem?_cons_succ, List.length_cons, List.length_nil, Nat.reduceAdd, Nat.reduceLT]
  refine Evp.tt rfl ?_
  have p9 := Pre.app ((M6 ++ [⟨.fx, ([12, 14, 16, 18] : List Int).map (Value.int .u8)⟩]) ++ [⟨.fx, ([8, 9, 9, 10, 11, 11, 12, 12] : List Int).map (Value.int .u8)⟩]) [⟨.fx, ([10, 10, 90, 90] : List Int).map (Value.int .u8)⟩]
  refine Evp.ob (eqBytes_ok _ _ _ _ _ _ _ _ (b6.rdI.pre ((p7.trans p8).trans p9)) (RdI.lit (k := .u8) [10, 10, 90, 90]) (by decide)) ?_
  rintro _ rfl
  simp only [ret_int, ret_bool, ret_flt, ret_slc, ret_str, ret_ptr, ret_agg, ret_tup, ob_some, bb_true, bb_false, List.getElem?_cons_zero, List.getElem?_cons_succ, List.length_cons, List.length_nil, Nat.reduceAdd, Nat.reduceLT]
  exact Evp.ret (Run.ret ⟨rfl, (q5.trans p6).trans ((p7.trans p8).trans p9)⟩)
section
variable (lo : Nat) (A S : Option Addr) (c cs : Nat) (xs : List Int) (M0 M2 : Mem)
theorem edges_end (hlo : lo ≤ M0.length) (hx : RdI M0 .u8 A xs) (hS : RdI M2 .u8 S xs) (hp : Pre M0 M2) (hn : xs.length ≤ 140737488351232) (K : Option Addr) (n cc : Nat) (i : Int) (M : Mem) (hpM : Pre M2 M) (hi : ¬ i < n) :
    Run P T lo F.zoetropelaw22_DeblockEdges (zoetropelaw22_DeblockEdges.c1012 A xs.length c S xs.length cs K n cc i M) fun r => ∃ M', r = (.bool true, M') ∧ Pre M0 M' := by
  refine Run.cut (Evp.of_eq (fun k => zoetropelaw22_DeblockEdges.p1012 k ..) ?_)
  refine Evp.dec (fun h => absurd h hi) fun _ => ?_
  refine Evp.ob (eqBytes_ok _ _ _ _ _ _ _ _ (hS.pre hpM) (hx.pre (hp.trans hpM)) hn) ?_
  rintro _ rfl
  simp only [ret_int, ret_bool, ret_flt, ret_slc, ret_str, ret_ptr, ret_agg, ret_tup, ob_some, bb_true, bb_false, List.getElem?_cons_zero, List.getElem?_cons_succ, List.length_cons, List.length_nil, Nat.reduceAdd, Nat.reduceLT]
  refine Evp.tt (by simp) ?_
  refine Evp.ob (awake_ok lo _ (Nat.le_trans hlo (hp.trans hpM).len)) ?_
  rintro ⟨v, M3⟩ ⟨h, p3⟩
  simp only at h
  subst h
  simp only [ret_int, ret_bool, ret_flt, ret_slc, ret_str, ret_ptr, ret_agg, ret_tup, ob_some, bb_true, bb_false, List.getElem?_cons_zero, List.getElem?_cons_succ, List.length_cons, List.length_nil, Nat.reduceAdd, Nat.reduceLT]
  exact Evp.ret (Run.ret ⟨M3, rfl, (hp.trans hpM).trans p3⟩)
theorem edges_loop (hlo : lo ≤ M0.length) (hx : RdI M0 .u8 A xs) (hS : RdI M2 .u8 S xs) (hp : Pre M0 M2) (hn : xs.length ≤ 140737488351232) (a : Addr) (cc : Nat) : ∀ (d i : Nat) (zs : List Int) (M : Mem), zs.length - i = d → i ≤ zs.length → zs.length ≤ 262144 → Pre M2 M → Buf M2 M a (zs.map (Value.int .u8)) →
    Run P T lo F.zoetropelaw22_DeblockEdges (zoetropelaw22_DeblockEdges.c1012 A xs.length c S xs.length cs (some a) zs.length cc i M) fun r => ∃ M', r = (.bool true, M') ∧ Pre M0 M' := by
  intro d
  induction d with
  | zero =>
    intro i zs M hd hi hz hpM hbuf
    exact edges_end lo A S c cs xs M0 M2 hlo hx hS hp hn _ _ _ _ M hpM (by omega)
  | succ d ih =>
    intro i zs M hd hi hz hpM hbuf
    refine Run.cut (Evp.of_eq (fun k => zoetropelaw22_DeblockEdges.p1012 k ..) ?_)
    refine Evp.dec (fun _ => ?_) fun h => absurd h (by omega)
    refine Evp.pos (by omega) ?_
    simp only [Int.toNat_natCast]
    refine Evp.ldI hbuf.rdI (by omega) fun _ _ => ?_
    refine Evp.pos (by omega) (Evp.some rfl ?_)
    obtain ⟨M3, h1, h2, h3, h4, h5⟩ := hbuf.st (lo := lo) (i := i) (vs := [.int .u8 (xorI .u8 (zs.getD i 0) 90)]) hpM (Nat.le_trans hlo hp.len) (by simp; omega)
    refine Evp.some h1 ?_
    rw [setL_one, set_map] at h2
    rw [w64 (by omega)]
    have := ih (i + 1) (zs.set i (xorI .u8 (zs.getD i 0) 90)) M3 (by simp; omega) (by simp; omega) (by simpa using hz) h3 h2
    rw [List.length_set] at this
    exact Evp.ret this
end
theorem edgeL_len (xs : List Int) (level sharp : Int) : (edgeL xs level sharp).length = xs.length := by
  unfold edgeL passL narrowL
  repeat' split
  all_goals simp [wideL_len]
theorem edges_ok (lo : Nat) (A : Option Addr) (c : Nat) (xs : List Int) (taps level sharp : Int) (M : Mem) (hlo : lo ≤ M.length) (hx : RdI M .u8 A xs) (bx : Bytes xs) (hn : xs.length ≤ 140737488351232) : Ac P T lo F.zoetropelaw22_DeblockEdges [.slice A xs.length c, .int .i64 taps, .agg ⟨[.int .i64 level, .int .i64 sharp]⟩] M fun r => ∃ M', r = (.bool true, M') ∧ Pre M M' := by
  refine Ac.of (Evp.of_eq (fun k => zoetropelaw22_DeblockEdges.entry k ..) ?_)
  refine Evp.ob (copyBytes_ok _ _ _ _ _ hx (by omega) hlo) ?_
  rintro _ ⟨S, cs, M2, rfl, p2, g2, k2⟩
  simp only [ret_int, ret_bool, ret_flt, ret_slc, ret_str, ret_ptr, ret_agg, ret_tup, ob_some, bb_true, bb_false, List.getElem?_cons_zero, List.getElem?_cons_succ, List.length_cons, List.length_nil, Nat.reduceAdd, Nat.reduceLT]
  refine Evp.ob (edge_ok lo S cs xs M2 level sharp taps (Nat.le_trans hlo p2.len) k2.rdI bx) ?_
  rintro ⟨v3, M3⟩ h3
  by_cases hk : EdgeOk xs.length taps level sharp
  · obtain ⟨a, cc, rfl, p3, b3⟩ := h3.got hk _ rfl
    simp only [ret_int, ret_bool, ret_flt, ret_slc, ret_str, ret_ptr, ret_agg, ret_tup, ob_some, bb_true, bb_false, List.getElem?_cons_zero, List.getElem?_cons_succ, List.length_cons, List.length_nil, Nat.reduceAdd, Nat.reduceLT]
    refine Evp.ob (redge_ok lo A c xs M3 level sharp taps (Nat.le_trans hlo (p2.trans p3).len) (hx.pre (p2.trans p3)) bx) ?_
    rintro ⟨v4, M4⟩ h4
    obtain ⟨a4, cc4, rfl, p4, b4⟩ := h4.got hk _ rfl
    simp only [ret_int, ret_bool, ret_flt, ret_slc, ret_str, ret_ptr, ret_agg, ret_tup, ob_some, bb_true, bb_false, List.getElem?_cons_zero, List.getElem?_cons_succ, List.length_cons, List.length_nil, Nat.reduceAdd, Nat.reduceLT]
    refine Evp.neb (fun h => absurd rfl h) fun _ => ?_
    have hl := edgeL_len xs level sharp
    have hsm : xs.length ≤ 14 := by have := hk.1; have := hk.2.1; omega
    have f := eqBytes_ok lo (some a) (some a4) cc cc4 _ _ M4 (b3.rdI.pre p4) b4.rdI (by omega)
    rw [hl] at f
    refine Evp.ob f ?_
    rintro _ rfl
    simp only [ret_int, ret_bool, ret_flt, ret_slc, ret_str, ret_ptr, ret_agg, ret_tup, ob_some, bb_true, bb_false, List.getElem?_cons_zero, List.getElem?_cons_succ, List.length_cons, List.length_nil, Nat.reduceAdd, Nat.reduceLT]
    refine Evp.ff (by simp) ?_
    refine Evp.ob (eqBytes_ok _ _ _ _ _ _ _ _ (k2.rdI.pre (p3.trans p4)) (hx.pre ((p2.trans p3).trans p4)) (by omega)) ?_
    rintro _ rfl
    simp only [ret_int, ret_bool, ret_flt, ret_slc, ret_str, ret_ptr, ret_agg, ret_tup, ob_some, bb_true, bb_false, List.getElem?_cons_zero, List.getElem?_cons_succ, List.length_cons, List.length_nil, Nat.reduceAdd, Nat.reduceLT]
    refine Evp.ff (by simp) ?_
    have lp := edges_loop lo A S c cs xs M M2 hlo hx k2.rdI p2 (by omega) a cc _ 0 (edgeL xs level sharp) M4 rfl (by omega) (by omega) (p3.trans p4) (b3.pre p4)
    rw [hl] at lp
    exact Evp.ret lp
  · obtain ⟨p3, h3⟩ := h3
    rw [if_neg hk] at h3
    simp only at h3
    subst h3
    simp only [ret_int, ret_bool, ret_flt, ret_slc, ret_str, ret_ptr, ret_agg, ret_tup, ob_some, bb_true, bb_false, List.getElem?_cons_zero, List.getElem?_cons_succ, List.length_cons, List.length_nil, Nat.reduceAdd, Nat.reduceLT]
    refine Evp.ob (redge_ok lo A c xs M3 level sharp taps (Nat.le_trans hlo (p2.trans p3).len) (hx.pre (p2.trans p3)) bx) ?_
    rintro ⟨v4, M4⟩ ⟨p4, h4⟩
    rw [if_neg hk] at h4
    simp only at h4
    subst h4
    simp only [ret_int, ret_bool, ret_flt, ret_slc, ret_str, ret_ptr, ret_agg, ret_tup, ob_some, bb_true, bb_false, List.getElem?_cons_zero, List.getElem?_cons_succ, List.length_cons, List.length_nil, Nat.reduceAdd, Nat.reduceLT]
    refine Evp.neb (fun h => absurd rfl h) fun _ => ?_
    refine Evp.ob (eqBytes_ok _ none none 0 0 [] [] _ RdI.nil RdI.nil (by decide)) ?_
    rintro _ rfl
    simp only [ret_int, ret_bool, ret_flt, ret_slc, ret_str, ret_ptr, ret_agg, ret_tup, ob_some, bb_true, bb_false, List.getElem?_cons_zero, List.getElem?_cons_succ, List.length_cons, List.length_nil, Nat.reduceAdd, Nat.reduceLT]
    refine Evp.ff (by simp) ?_
    refine Evp.ob (eqBytes_ok _ _ _ _ _ _ _ _ (k2.rdI.pre (p3.trans p4)) (hx.pre ((p2.trans p3).trans p4)) (by omega)) ?_
    rintro _ rfl
    simp only [ret_int, ret_bool, ret_flt, ret_slc, ret_str, ret_ptr, ret_agg, ret_tup, ob_some, bb_true, bb_false, List.getElem?_cons_zero, List.getElem?_cons_succ, List.length_cons, List.length_nil, Nat.reduceAdd, Nat.reduceLT]
    refine Evp.ff (by simp) ?_
    exact Evp.ret (edges_end lo A S c cs xs M M2 hlo hx k2.rdI p2 (by omega) none 0 0 0 M4 (p3.trans p4) (by omega))
theorem DeblockEdges_law (M : Mem) (vs : List Value) (hro : AllRo M) (hv : LaysArgs P M [22, 3, 23] vs) : Ac P T M.length F.zoetropelaw22_DeblockEdges vs M fun r => r.1 = .bool true := by
  obtain ⟨A, c, xs, taps, level, sharp, rfl, hc, hn, hx, wx, _⟩ := Arg.DeblockEdges hv
  refine Ac.mono (edges_ok M.length A c xs taps level sharp M (Nat.le_refl _) hx (fun x hx => wf_u8 (wx x hx)) (by omega)) ?_
  rintro _ ⟨M', rfl, _⟩
  rfl
end Go.Zt
