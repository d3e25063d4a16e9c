/- The chapter's examples, and both ends. -/
import Derived.Test.YtijdfhanoikgfaaFo
set_option linter.unusedVariables false
set_option linter.unusedSimpArgs false
set_option maxRecDepth 100000
namespace Go.Zt
def placesL : List Int := [0, 0, 3, 4, 0, 0, 0, 4, 3, 0, 0, 0, 65, 4, 0, 0, 0, 4, 65, 0, 1048577, 0, 4, 4, 0, -1048577, 0, 4, 4, 0, 0, 1048577, 4, 4, 0, 0, -1048577, 4, 4, 0, 0, 0, 4, 4, -1, 0, 0, 4, 4, 3]
def endsL : List Int := [3, 0, -1, 0, 0, 16, 0, -1, 2, 16]
theorem tab_ld {M : Mem} {b : Nat} {L : List Int} (h : M[b]? = some ⟨.fx, L.map (Value.int .i64)⟩) (j : Nat) (hj : j < L.length) : (M.ld (plus ⟨b, 0, none⟩ j)).bind (Value.int? .i64) = some (L.getD j 0) := by
  rw [fx_ldp h]; exact tab_get L j hj
theorem known_ends (lo b : Nat) : ∀ (d i : Nat) (M : Mem), 5 - i = d → i ≤ 5 → lo ≤ M.length → M[b]? = some ⟨.fx, endsL.map (Value.int .i64)⟩ →
    Run P T lo F.zoetropelaw14_SubpelKnown (zoetropelaw14_SubpelKnown.c4084 true true (some ⟨b, 0, none⟩) 5 5 5 i M) fun r => r.1 = .bool true := by
  have bad : ∀ i : Nat, i < 5 → tapsS (endsL.getD (i * 2) 0) (endsL.getD (i * 2 + 1) 0) = [0, 0, 0, 0, 0, 0, 0, 0] ∧ tapsE (endsL.getD (i * 2) 0) (endsL.getD (i * 2 + 1) 0) = 2 := by decide
  have key := lits8 [0, 0, 0, 0, 0, 0, 0, 0] rfl (by intro x hx; simp at hx; omega)
  intro d
  induction d with
  | zero =>
    intro i M hd hi hlo hb
    refine Run.cut (Evp.of_eq (fun k => zoetropelaw14_SubpelKnown.p4084 k ..) ?_)
    refine Evp.dec (fun h => absurd h (by omega)) fun _ => ?_
    refine Evp.ob (fetch_ok lo 0 0 none 0 [] 0 0 4 4 0 M RdI.nil (fun x hx => by simp at hx) (Nat.le_refl _) hlo) ?_
    intro r hr
    obtain ⟨M1, rfl, p1⟩ := hr.not (by decide)
    simp only [ret_int, ret_bool, ret_flt, ret_slc, ret_str, ret_ptr, ret_agg, ret_tup, ob_some, bb_true, bb_false, List.getElem?_cons_zero, List.getElem?_cons_succ, List.length_cons, List.length_nil, Nat.reduceAdd, Nat.reduceLT]
    refine Evp.ob (given_ok ..) ?_
    rintro _ rfl
    simp only [ret_int, ret_bool, ret_flt, ret_slc, ret_str, ret_ptr, ret_agg, ret_tup, ob_some, bb_true, bb_false, List.getElem?_cons_zero, List.getElem?_cons_succ, List.length_cons, List.length_nil, Nat.reduceAdd, Nat.reduceLT]
    have p2 := Pre.app M1 [⟨.fx, givenL.map (Value.int .u8)⟩]
    have l2 := (p1.trans p2).len
    refine Evp.ob (fetch_ok lo 4 1 (some ⟨M1.length, 0, none⟩) 4 givenL 0 0 64 64 1 _ (RdI.lit (k := .u8) givenL) givenB (by decide) (Nat.le_trans hlo l2)) ?_
    intro r hr
    obtain ⟨B, cc, M3, rfl, p3, g3, k3⟩ := hr.got (by decide)
    simp only [ret_int, ret_bool, ret_flt, ret_slc, ret_str, ret_ptr, ret_agg, ret_tup, ob_some, bb_true, bb_false, List.getElem?_cons_zero, List.getElem?_cons_succ, List.length_cons, List.length_nil, Nat.reduceAdd, Nat.reduceLT]
    have l3 := p3.len
    refine Evp.ob (works_ok _ _ (Nat.le_trans (Nat.le_trans hlo l2) l3)) ?_
    rintro _ ⟨M4, rfl, _⟩
    simp only [ret_int, ret_bool, ret_flt, ret_slc, ret_str, ret_ptr, ret_agg, ret_tup, ob_some, bb_true, bb_false, List.getElem?_cons_zero, List.getElem?_cons_succ, List.length_cons, List.length_nil, Nat.reduceAdd, Nat.reduceLT]
    refine Evp.tt rfl (Evp.tt rfl ?_)
    refine Evp.ret (Run.ret ?_)
    rw [fetchS_len]; rfl
  | succ d ih =>
    intro i M hd hi hlo hb
    refine Run.cut (Evp.of_eq (fun k => zoetropelaw14_SubpelKnown.p4084 k ..) ?_)
    refine Evp.dec (fun _ => ?_) fun h => absurd h (by omega)
    refine Evp.pos (by omega) ?_
    simp only [Int.toNat_natCast, plus_plus]
    have hL : endsL.length = 10 := rfl
    refine Evp.some rfl (Evp.some (tab_ld hb _ (by omega)) (Evp.some (tab_ld hb _ (by omega)) ?_))
    obtain ⟨b1, b2⟩ := bad i (by omega)
    refine Evp.ob (taps_ok _ _ _ _ hlo) ?_
    rintro _ ⟨M1, rfl, p1⟩
    rw [b1, b2]
    simp only [ret_int, ret_bool, ret_flt, ret_slc, ret_str, ret_ptr, ret_agg, ret_tup, ob_some, bb_true, bb_false, List.getElem?_cons_zero, List.getElem?_cons_succ, List.length_cons, List.length_nil, Nat.reduceAdd, Nat.reduceLT, List.map_cons, List.map_nil]
    refine Evp.ff rfl ?_
    refine Evp.some key (Evp.some key ?_)
    refine Evp.ff (by rw [sameLits_ints]; rfl) ?_
    rw [w64 (by omega)]
    have l1 := p1.len
    exact Evp.ret (ih (i + 1) M1 (by omega) (by omega) (by omega) (p1 _ _ hb))
theorem known_places (lo b : Nat) : ∀ (d i : Nat) (M : Mem), 10 - i = d → i ≤ 10 → lo ≤ M.length → M[b]? = some ⟨.fx, placesL.map (Value.int .i64)⟩ →
    Run P T lo F.zoetropelaw14_SubpelKnown (zoetropelaw14_SubpelKnown.c2036 true true (some ⟨b, 0, none⟩) 10 10 10 i M) fun r => r.1 = .bool true := by
  have bad : ∀ i : Nat, i < 10 → ¬ FetchOk 4 1 4 (placesL.getD (i * 5) 0) (placesL.getD (i * 5 + 1) 0) (placesL.getD (i * 5 + 2) 0) (placesL.getD (i * 5 + 3) 0) (placesL.getD (i * 5 + 4) 0) := by decide
  intro d
  induction d with
  | zero =>
    intro i M hd hi hlo hb
    refine Run.cut (Evp.of_eq (fun k => zoetropelaw14_SubpelKnown.p2036 k ..) ?_)
    refine Evp.dec (fun h => absurd h (by omega)) fun _ => ?_
    exact Evp.ret (known_ends lo M.length 5 0 _ rfl (by omega) (by simp; omega) (push_self M ⟨.fx, endsL.map (Value.int .i64)⟩))
  | succ d ih =>
    intro i M hd hi hlo hb
    refine Run.cut (Evp.of_eq (fun k => zoetropelaw14_SubpelKnown.p2036 k ..) ?_)
    refine Evp.dec (fun _ => ?_) fun h => absurd h (by omega)
    refine Evp.pos (by omega) ?_
    simp only [Int.toNat_natCast, plus_plus]
    have hL : placesL.length = 50 := rfl
    refine Evp.some rfl (Evp.some (tab_ld hb _ (by omega)) (Evp.some (tab_ld hb _ (by omega)) (Evp.some (tab_ld hb _ (by omega)) (Evp.some (tab_ld hb _ (by omega)) (Evp.some (tab_ld hb _ (by omega)) ?_)))))
    refine Evp.ob (given_ok ..) ?_
    rintro _ rfl
    simp only [ret_int, ret_bool, ret_flt, ret_slc, ret_str, ret_ptr, ret_agg, ret_tup, ob_some, bb_true, bb_false, List.getElem?_cons_zero, List.getElem?_cons_succ, List.length_cons, List.length_nil, Nat.reduceAdd, Nat.reduceLT]
    have p1 := Pre.app M [⟨.fx, givenL.map (Value.int .u8)⟩]
    refine Evp.ob (fetch_ok M.length 4 1 (some ⟨M.length, 0, none⟩) 4 givenL _ _ _ _ _ _ (RdI.lit (k := .u8) givenL) givenB (by decide) p1.len) ?_
    intro r hr
    obtain ⟨M2, rfl, p2⟩ := hr.not (bad i (by omega))
    simp only [ret_int, ret_bool, ret_flt, ret_slc, ret_str, ret_ptr, ret_agg, ret_tup, ob_some, bb_true, bb_false, List.getElem?_cons_zero, List.getElem?_cons_succ, List.length_cons, List.length_nil, Nat.reduceAdd, Nat.reduceLT]
    refine Evp.ff rfl ?_
    rw [w64 (by omega)]
    have l2 := (p1.trans p2).len
    exact Evp.ret (ih (i + 1) M2 (by omega) (by omega) (by omega) ((p1.trans p2) _ _ hb))
theorem SubpelKnown_law (M : Mem) (vs : List Value) (hro : AllRo M) (hv : LaysArgs P M [] vs) : Ac P T M.length F.zoetropelaw14_SubpelKnown vs M fun r => r.1 = .bool true := by
  obtain rfl := Arg.SubpelKnown hv
  refine Ac.of (Evp.of_eq (fun k => zoetropelaw14_SubpelKnown.entry k ..) ?_)
  refine Evp.ob (taps_ok _ _ _ _ (Nat.le_refl _)) ?_
  rintro _ ⟨M1, rfl, p1⟩
  rw [show tapsS 0 8 = [0, 2, -14, 76, 76, -14, 2, 0] by decide, show tapsE 0 8 = 0 by decide]
  simp only [ret_int, ret_bool, ret_flt, ret_slc, ret_str, ret_ptr, ret_agg, ret_tup, ob_some, bb_true, bb_false, List.getElem?_cons_zero, List.getElem?_cons_succ, List.length_cons, List.length_nil, Nat.reduceAdd, Nat.reduceLT, List.map_cons, List.map_nil]
  refine Evp.ob (taps_ok _ _ _ _ p1.len) ?_
  rintro _ ⟨M2, rfl, p2⟩
  rw [show tapsS 2 3 = [0, 0, 0, 104, 24, 0, 0, 0] by decide, show tapsE 2 3 = 0 by decide]
  simp only [ret_int, ret_bool, ret_flt, ret_slc, ret_str, ret_ptr, ret_agg, ret_tup, ob_some, bb_true, bb_false, List.getElem?_cons_zero, List.getElem?_cons_succ, List.length_cons, List.length_nil, Nat.reduceAdd, Nat.reduceLT, List.map_cons, List.map_nil]
  refine Evp.ob (taps_ok _ _ _ _ (p1.trans p2).len) ?_
  rintro _ ⟨M3, rfl, p3⟩
  rw [show tapsS 1 9 = [0, 0, 12, 48, 54, 16, -2, 0] by decide, show tapsE 1 9 = 0 by decide]
  simp only [ret_int, ret_bool, ret_flt, ret_slc, ret_str, ret_ptr, ret_agg, ret_tup, ob_some, bb_true, bb_false, List.getElem?_cons_zero, List.getElem?_cons_succ, List.length_cons, List.length_nil, Nat.reduceAdd, Nat.reduceLT, List.map_cons, List.map_nil]
  have key1 := lits8 [0, 2, -14, 76, 76, -14, 2, 0] rfl (by intro x hx; simp at hx; omega)
  have key2 := lits8 [0, 0, 0, 104, 24, 0, 0, 0] rfl (by intro x hx; simp at hx; omega)
  have key3 := lits8 [0, 0, 12, 48, 54, 16, -2, 0] rfl (by intro x hx; simp at hx; omega)
  refine Evp.tt rfl (Evp.tt rfl (Evp.tt rfl ?_))
  refine Evp.some key1 (Evp.some key1 ?_)
  refine Evp.tt (by rw [sameLits_ints]; rfl) ?_
  refine Evp.some key2 (Evp.some key2 ?_)
  refine Evp.tt (by rw [sameLits_ints]; rfl) ?_
  refine Evp.some key3 (Evp.some key3 ?_)
  rw [show sameLits (([0, 0, 12, 48, 54, 16, -2, 0] : List Int).map (Lit.int .i64)) (([0, 0, 12, 48, 54, 16, -2, 0] : List Int).map (Lit.int .i64)) = true by rw [sameLits_ints]; rfl]
  have p13 := (p1.trans p2).trans p3
  refine Evp.ob (row_ok _ _ _ _ _ p13.len (by decide)) ?_
  rintro _ ⟨B, cc, M4, rfl, p4, h4⟩
  simp only [ret_int, ret_bool, ret_flt, ret_slc, ret_str, ret_ptr, ret_agg, ret_tup, ob_some, bb_true, bb_false, List.getElem?_cons_zero, List.getElem?_cons_succ, List.length_cons, List.length_nil, Nat.reduceAdd, Nat.reduceLT]
  have e4 : (fetchS 4 1 givenL 0 0 4 4 0).take 4 = [0, 100, 100, 0] := by kernel_rfl
  rw [e4] at h4
  have p5 := Pre.app M4 [⟨.fx, ([0, 100, 100, 0] : List Int).map (Value.int .u8)⟩]
  refine Evp.ob (eqBytes_ok _ _ _ _ _ _ _ _ (h4.pre p5) (RdI.lit (k := .u8) [0, 100, 100, 0]) (by decide)) ?_
  rintro _ rfl
  simp only [ret_int, ret_bool, ret_flt, ret_slc, ret_str, ret_ptr, ret_agg, ret_tup, ob_some, bb_true, bb_false, List.getElem?_cons_zero, List.getElem?_cons_succ, List.length_cons, List.length_nil, Nat.reduceAdd, Nat.reduceLT]
  refine Evp.tt rfl ?_
  have p15 := (p13.trans p4).trans p5
  refine Evp.ob (row_ok _ _ _ _ _ p15.len (by decide)) ?_
  rintro _ ⟨B6, cc6, M6, rfl, p6, h6⟩
  simp only [ret_int, ret_bool, ret_flt, ret_slc, ret_str, ret_ptr, ret_agg, ret_tup, ob_some, bb_true, bb_false, List.getElem?_cons_zero, List.getElem?_cons_succ, List.length_cons, List.length_nil, Nat.reduceAdd, Nat.reduceLT]
  have e6 : (fetchS 4 1 givenL (-16) 0 4 4 2).take 4 = [0, 0, 100, 100] := by kernel_rfl
  rw [e6] at h6
  have p7 := Pre.app M6 [⟨.fx, ([0, 0, 100, 100] : List Int).map (Value.int .u8)⟩]
  refine Evp.ob (eqBytes_ok _ _ _ _ _ _ _ _ (h6.pre p7) (RdI.lit (k := .u8) [0, 0, 100, 100]) (by decide)) ?_
  rintro _ rfl
  simp only [ret_int, ret_bool, ret_flt, ret_slc, ret_str, ret_ptr, ret_agg, ret_tup, ob_some, bb_true, bb_false, List.getElem?_cons_zero, List.getElem?_cons_succ, List.length_cons, List.length_nil, Nat.reduceAdd, Nat.reduceLT]
  refine Evp.tt rfl ?_
  have p17 := (p15.trans p6).trans p7
  refine Evp.ob (row_ok _ _ _ _ _ p17.len (by decide)) ?_
  rintro _ ⟨B8, cc8, M8, rfl, p8, h8⟩
  simp only [ret_int, ret_bool, ret_flt, ret_slc, ret_str, ret_ptr, ret_agg, ret_tup, ob_some, bb_true, bb_false, List.getElem?_cons_zero, List.getElem?_cons_succ, List.length_cons, List.length_nil, Nat.reduceAdd, Nat.reduceLT]
  have e8 : (fetchS 4 1 givenL 1048576 (-1048576) 4 4 0).take 4 = [0, 0, 0, 0] := by kernel_rfl
  rw [e8] at h8
  have p9 := Pre.app M8 [⟨.fx, ([0, 0, 0, 0] : List Int).map (Value.int .u8)⟩]
  refine Evp.ob (eqBytes_ok _ _ _ _ _ _ _ _ (h8.pre p9) (RdI.lit (k := .u8) [0, 0, 0, 0]) (by decide)) ?_
  rintro _ rfl
  simp only [ret_int, ret_bool, ret_flt, ret_slc, ret_str, ret_ptr, ret_agg, ret_tup, ob_some, bb_true, bb_false, List.getElem?_cons_zero, List.getElem?_cons_succ, List.length_cons, List.length_nil, Nat.reduceAdd, Nat.reduceLT]
  rw [decide_true]
  have p19 := (p17.trans p8).trans p9
  have l19 := p19.len
  exact Evp.ret (known_places M.length _ 10 0 _ rfl (by omega) (by simp at l19 ⊢; omega) (push_self _ ⟨.fx, placesL.map (Value.int .i64)⟩))
end Go.Zt
