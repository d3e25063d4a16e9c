/- Edges, whole, the program's; the law. -/
import Derived.Test.YtibbmknipkifeaaFh
import Derived.Test.YtibbmknipkifeaaArg
set_option linter.unusedVariables false
set_option linter.unusedSimpArgs false
set_option maxRecDepth 100000
namespace Go.Zt
abbrev tapsL : List Int := [4, 6, 8, 14]
theorem contains_ok (lo : Nat) (v : Int) (M : Mem) (A : Option Addr) (hx : RdI M .i64 A tapsL) : Ac P T lo F.slices_Contains__int_int [.slice A 4 4, .int .i64 v] M fun r => r = (.bool (decide (v = 4 ∨ v = 6 ∨ v = 8 ∨ v = 14)), M) := by
  have idx : Ac P T lo F.slices_Index__int_int [.slice A 4 4, .int .i64 v] M fun r => ∃ z : Int, r = (.int .i64 z, M) ∧ (z ≥ 0 ↔ (v = 4 ∨ v = 6 ∨ v = 8 ∨ v = 14)) := by
    refine Ac.of (Evp.of_eq (fun k => slices_Index__int_int.entry k ..) ?_)
    refine Evp.ret ?_
    refine Run.cut (Evp.of_eq (fun k => slices_Index__int_int.p52 k ..) ?_)
    refine Evp.tt rfl (Evp.pos (by decide) (Evp.ldI (i := 0) hx (by decide) fun _ _ => ?_))
    refine Evp.eqb (fun h => Evp.ret (Run.ret ⟨_, rfl, by simp [h]⟩)) fun h0 => ?_
    rw [show IntKind.i64.wrap (0 + 1) = 1 from by decide]
    refine Evp.ret ?_
    refine Run.cut (Evp.of_eq (fun k => slices_Index__int_int.p52 k ..) ?_)
    refine Evp.tt rfl (Evp.pos (by decide) (Evp.ldI (i := 1) hx (by decide) fun _ _ => ?_))
    refine Evp.eqb (fun h => Evp.ret (Run.ret ⟨_, rfl, by simp [h]⟩)) fun h1 => ?_
    rw [show IntKind.i64.wrap (1 + 1) = 2 from by decide]
    refine Evp.ret ?_
    refine Run.cut (Evp.of_eq (fun k => slices_Index__int_int.p52 k ..) ?_)
    refine Evp.tt rfl (Evp.pos (by decide) (Evp.ldI (i := 2) hx (by decide) fun _ _ => ?_))
    refine Evp.eqb (fun h => Evp.ret (Run.ret ⟨_, rfl, by simp [h]⟩)) fun h2 => ?_
    rw [show IntKind.i64.wrap (2 + 1) = 3 from by decide]
    refine Evp.ret ?_
    refine Run.cut (Evp.of_eq (fun k => slices_Index__int_int.p52 k ..) ?_)
    refine Evp.tt rfl (Evp.pos (by decide) (Evp.ldI (i := 3) hx (by decide) fun _ _ => ?_))
    refine Evp.eqb (fun h => Evp.ret (Run.ret ⟨_, rfl, by simp [h]⟩)) fun h3 => ?_
    rw [show IntKind.i64.wrap (3 + 1) = 4 from by decide]
    refine Evp.ret ?_
    refine Run.cut (Evp.of_eq (fun k => slices_Index__int_int.p52 k ..) ?_)
    refine Evp.ff rfl (Evp.ret (Run.ret ⟨-1, rfl, ?_⟩))
    have e0 : tapsL.getD 0 0 = 4 := rfl
    have e1 : tapsL.getD 1 0 = 6 := rfl
    have e2 : tapsL.getD 2 0 = 8 := rfl
    have e3 : tapsL.getD 3 0 = 14 := rfl
    omega
  refine Ac.of (Evp.of_eq (fun k => slices_Contains__int_int.entry k ..) ?_)
  refine Evp.ob idx ?_
  rintro _ ⟨z, rfl, hz⟩
  simp only [ret_int, ret_bool, ret_flt, ret_slc, ret_str, ret_ptr, ret_agg, ret_tup, ob_some, bb_true, bb_false, List.getElem?_cons_zero, List.getElem?_cons_succ, List.length_cons, List.length_nil, Nat.reduceAdd, Nat.reduceLT]
  refine Evp.ret (Run.ret ?_)
  congr 2
  exact decide_eq_decide.2 hz
section
variable (lo : Nat) (A : Option Addr) (c : Nat) (xs : List Int) (M : Mem) (level sharp : Int)
theorem filter_ok (hlo : lo ≤ M.length) (hx : RdI M .u8 A xs) (bx : Bytes xs) (hlen : xs.length = 4 ∨ xs.length = 6 ∨ xs.length = 8 ∨ xs.length = 14) (lim edge : Int) :
    Ac P T lo F.deblock_line_filter [.agg ⟨[.slice A xs.length c, .int .i64 ((xs.length / 2 : Nat) : Int)]⟩, .agg ⟨[.int .i64 lim, .int .i64 edge, .int .i64 (level / 16)]⟩] M fun r => ∃ a cc M', r = (.slice (some a) xs.length cc, M') ∧ Pre M M' ∧ Buf M M' a ((if smoothE xs lim edge then passL xs level else xs).map (Value.int .u8)) := by
  refine Ac.of (Evp.of_eq (fun k => deblock_line_filter.entry k ..) ?_)
  refine Evp.ob (rough_ok _ _ _ _ _ hx bx (by omega) (by omega) lim edge (level / 16)) ?_
  rintro _ rfl
  simp only [ret_int, ret_bool, ret_flt, ret_slc, ret_str, ret_ptr, ret_agg, ret_tup, ob_some, bb_true, bb_false, List.getElem?_cons_zero, List.getElem?_cons_succ, List.length_cons, List.length_nil, Nat.reduceAdd, Nat.reduceLT]
  refine Evp.dec (fun h => ?_) fun h => ?_
  · refine Evp.ob (clone_ok lo A c xs M hx (by omega) (by omega) hlo) ?_
    rintro _ ⟨a, cc, M1, rfl, p1, hcc, hb⟩
    simp only [ret_int, ret_bool, ret_flt, ret_slc, ret_str, ret_ptr, ret_agg, ret_tup, ob_some, bb_true, bb_false, List.getElem?_cons_zero, List.getElem?_cons_succ, List.length_cons, List.length_nil, Nat.reduceAdd, Nat.reduceLT]
    exact Evp.ret (Run.ret ⟨a, cc, M1, rfl, p1, by rw [if_neg h]; exact hb⟩)
  have h := Decidable.not_not.1 h
  rw [if_pos h]
  have nar : passL xs level = narrowL xs (level / 16) → Evp (fun k => ob (acall P T k lo F.deblock_line_narrow [.agg ⟨[.slice A xs.length c, .int .i64 ((xs.length / 2 : Nat) : Int)]⟩, .agg ⟨[.int .i64 lim, .int .i64 edge, .int .i64 (level / 16)]⟩] M) fun r29 => ob ((some r29.1).bind Value.slc?) fun s30 => some (.ret (.slice s30.a s30.n s30.c) r29.2)) fun out => Run P T lo F.deblock_line_filter out fun r => ∃ a cc M', r = (.slice (some a) xs.length cc, M') ∧ Pre M M' ∧ Buf M M' a ((passL xs level).map (Value.int .u8)) := fun e => by
    rw [e]
    refine Evp.ob (narrow_ok lo A c xs M lim edge (level / 16) hlo hx bx (by omega) (by omega) (by omega)) ?_
    rintro _ ⟨a, cc, M1, rfl, p1, hb⟩
    simp only [ret_int, ret_bool, ret_flt, ret_slc, ret_str, ret_ptr, ret_agg, ret_tup, ob_some, bb_true, bb_false, List.getElem?_cons_zero, List.getElem?_cons_succ, List.length_cons, List.length_nil, Nat.reduceAdd, Nat.reduceLT]
    exact Evp.ret (Run.ret ⟨a, cc, M1, rfl, p1, hb⟩)
  have wid : ∀ (n m : Nat) (sh : Int), CaseW n m sh → n + 1 ≤ xs.length / 2 → passL xs level = wideL xs n m sh (2 * n) → Evp (fun k => ob (acall P T k lo F.deblock_line_wide [.agg ⟨[.slice A xs.length c, .int .i64 ((xs.length / 2 : Nat) : Int)]⟩, .int .i64 n, .int .i64 m, .int .i64 sh] M) fun r29 => ob ((some r29.1).bind Value.slc?) fun s30 => some (.ret (.slice s30.a s30.n s30.c) r29.2)) fun out => Run P T lo F.deblock_line_filter out fun r => ∃ a cc M', r = (.slice (some a) xs.length cc, M') ∧ Pre M M' ∧ Buf M M' a ((passL xs level).map (Value.int .u8)) := fun n m sh hc hnn e => by
    rw [e]
    refine Evp.ob (wide_ok hlo hx bx (by omega) (by omega) hnn hc) ?_
    rintro _ ⟨a, cc, M1, rfl, p1, hb⟩
    simp only [ret_int, ret_bool, ret_flt, ret_slc, ret_str, ret_ptr, ret_agg, ret_tup, ob_some, bb_true, bb_false, List.getElem?_cons_zero, List.getElem?_cons_succ, List.length_cons, List.length_nil, Nat.reduceAdd, Nat.reduceLT]
    exact Evp.ret (Run.ret ⟨a, cc, M1, rfl, p1, hb⟩)
  have n6 : xs.length ≠ 6 → xs.length ≠ 14 ∨ ¬ flatP xs 6 → (8 ≤ xs.length → ¬ flatP xs 3) → passL xs level = narrowL xs (level / 16) := fun a b c => by
    unfold passL
    rw [if_neg (fun e => a e.1), if_neg (fun e => by rcases b with b | b; exact b e.1; exact b e.2), if_neg (fun e => c e.1 e.2)]
  refine Evp.eqb (fun e6 => ?_) fun e6 => ?_
  · refine Evp.ob (flat_ok _ _ _ _ _ hx bx (by omega) 2 (by omega)) ?_
    rintro _ rfl
    simp only [ret_int, ret_bool, ret_flt, ret_slc, ret_str, ret_ptr, ret_agg, ret_tup, ob_some, bb_true, bb_false, List.getElem?_cons_zero, List.getElem?_cons_succ, List.length_cons, List.length_nil, Nat.reduceAdd, Nat.reduceLT]
    refine Evp.dec (fun hf => wid 2 1 3 (.inl ⟨rfl, rfl, rfl⟩) (by omega) (by unfold passL; rw [if_pos ⟨by omega, hf⟩])) fun hf => ?_
    refine Evp.eqb (fun e14 => absurd e14 (by omega)) fun e14 => ?_
    refine Evp.dec (fun h8 => absurd h8 (by omega)) fun h8 => ?_
    exact nar (by unfold passL; rw [if_neg (fun e => hf e.2), if_neg (by omega), if_neg (by omega)])
  · refine Evp.eqb (fun e14 => ?_) fun e14 => ?_
    · refine Evp.ob (flat_ok _ _ _ _ _ hx bx (by omega) 6 (by omega)) ?_
      rintro _ rfl
      simp only [ret_int, ret_bool, ret_flt, ret_slc, ret_str, ret_ptr, ret_agg, ret_tup, ob_some, bb_true, bb_false, List.getElem?_cons_zero, List.getElem?_cons_succ, List.length_cons, List.length_nil, Nat.reduceAdd, Nat.reduceLT]
      refine Evp.dec (fun hf => wid 6 1 4 (.inr (.inr ⟨rfl, rfl, rfl⟩)) (by omega) (by unfold passL; rw [if_neg (by omega), if_pos ⟨by omega, hf⟩])) fun hf => ?_
      refine Evp.dec (fun h8 => ?_) fun h8 => absurd h8 (by omega)
      refine Evp.ob (flat_ok _ _ _ _ _ hx bx (by omega) 3 (by omega)) ?_
      rintro _ rfl
      simp only [ret_int, ret_bool, ret_flt, ret_slc, ret_str, ret_ptr, ret_agg, ret_tup, ob_some, bb_true, bb_false, List.getElem?_cons_zero, List.getElem?_cons_succ, List.length_cons, List.length_nil, Nat.reduceAdd, Nat.reduceLT]
      refine Evp.dec (fun hf3 => wid 3 0 3 (.inr (.inl ⟨rfl, rfl, rfl⟩)) (by omega) (by unfold passL; rw [if_neg (by omega), if_neg (fun e => hf e.2), if_pos ⟨by omega, hf3⟩])) fun hf3 => ?_
      exact nar (n6 (by omega) (.inr hf) fun _ => hf3)
    · refine Evp.dec (fun h8 => ?_) fun h8 => ?_
      · refine Evp.ob (flat_ok _ _ _ _ _ hx bx (by omega) 3 (by omega)) ?_
        rintro _ rfl
        simp only [ret_int, ret_bool, ret_flt, ret_slc, ret_str, ret_ptr, ret_agg, ret_tup, ob_some, bb_true, bb_false, List.getElem?_cons_zero, List.getElem?_cons_succ, List.length_cons, List.length_nil, Nat.reduceAdd, Nat.reduceLT]
        refine Evp.dec (fun hf3 => wid 3 0 3 (.inr (.inl ⟨rfl, rfl, rfl⟩)) (by omega) (by unfold passL; rw [if_neg (by omega), if_neg (by omega), if_pos ⟨by omega, hf3⟩])) fun hf3 => ?_
        exact nar (n6 (by omega) (.inl (by omega)) fun _ => hf3)
      · exact nar (n6 (by omega) (.inl (by omega)) fun h => absurd h (by omega))
theorem edge_ok (taps : Int) (hlo : lo ≤ M.length) (hx : RdI M .u8 A xs) (bx : Bytes xs) : Ac P T lo F.deblock_Edge [.slice A xs.length c, .int .i64 taps, .int .i64 level, .int .i64 sharp] M (EdgeR M xs taps level sharp) := by
  have p1 := Pre.app M [⟨.fx, tapsL.map (Value.int .i64)⟩]
  have bad : ¬ EdgeOk xs.length taps level sharp → Run P T lo F.deblock_Edge (.ret (.tuple ⟨[.slice none 0 0, .int .i64 2]⟩) (M ++ [⟨.fx, tapsL.map (Value.int .i64)⟩])) (EdgeR M xs taps level sharp) := fun h => Run.ret ⟨p1, by rw [if_neg h]⟩
  refine Ac.of (Evp.of_eq (fun k => deblock_Edge.entry k ..) ?_)
  refine Evp.ob (contains_ok lo taps _ _ (RdI.lit tapsL)) ?_
  rintro _ rfl
  simp only [ret_int, ret_bool, ret_flt, ret_slc, ret_str, ret_ptr, ret_agg, ret_tup, ob_some, bb_true, bb_false, List.getElem?_cons_zero, List.getElem?_cons_succ, List.length_cons, List.length_nil, Nat.reduceAdd, Nat.reduceLT]
  refine Evp.nb (fun h => Evp.ret (bad fun e => of_decide_eq_false h e.1)) fun ht => ?_
  have ht := of_decide_eq_true ht
  refine Evp.neb (fun h => Evp.ret (bad fun e => h e.2.1)) fun hl => ?_
  refine Evp.ob (within_ok ..) ?_
  rintro _ rfl
  simp only [ret_int, ret_bool, ret_flt, ret_slc, ret_str, ret_ptr, ret_agg, ret_tup, ob_some, bb_true, bb_false, List.getElem?_cons_zero, List.getElem?_cons_succ, List.length_cons, List.length_nil, Nat.reduceAdd, Nat.reduceLT]
  refine Evp.nb (fun h => Evp.ret (bad fun e => of_decide_eq_false h ⟨e.2.2.1, e.2.2.2.1⟩)) fun hv => ?_
  have hv := of_decide_eq_true hv
  refine Evp.ob (within_ok ..) ?_
  rintro _ rfl
  simp only [ret_int, ret_bool, ret_flt, ret_slc, ret_str, ret_ptr, ret_agg, ret_tup, ob_some, bb_true, bb_false, List.getElem?_cons_zero, List.getElem?_cons_succ, List.length_cons, List.length_nil, Nat.reduceAdd, Nat.reduceLT]
  refine Evp.nb (fun h => Evp.ret (bad fun e => of_decide_eq_false h e.2.2.2.2)) fun hsp => ?_
  have hsp := of_decide_eq_true hsp
  have ok : EdgeOk xs.length taps level sharp := ⟨ht, hl, hv.1, hv.2, hsp.1, hsp.2⟩
  have good : ∀ (a : Addr) (cc : Nat) (M' : Mem), Pre M M' → Buf M M' a ((edgeL xs level sharp).map (Value.int .u8)) → Run P T lo F.deblock_Edge (.ret (.tuple ⟨[.slice (some a) xs.length cc, .int .i64 0]⟩) M') (EdgeR M xs taps level sharp) := fun a cc M' hp hb => Run.ret ⟨hp, by rw [if_pos ok]; exact ⟨a, cc, rfl, hb⟩⟩
  refine Evp.eqb (fun e0 => ?_) fun e0 => ?_
  · refine Evp.ob (clone_ok lo A c xs _ (hx.pre p1) (by omega) (by omega) (Nat.le_trans hlo p1.len)) ?_
    rintro _ ⟨a, cc, M1, rfl, p2, hcc, hb⟩
    simp only [ret_int, ret_bool, ret_flt, ret_slc, ret_str, ret_ptr, ret_agg, ret_tup, ob_some, bb_true, bb_false, List.getElem?_cons_zero, List.getElem?_cons_succ, List.length_cons, List.length_nil, Nat.reduceAdd, Nat.reduceLT]
    exact Evp.ret (good a cc M1 (p1.trans p2) (by unfold edgeL; rw [if_neg (fun e => e.1 e0)]; exact hb.floor p1.len))
  · refine Evp.ob (bounds_ok _ _ _ _ hv hsp) ?_
    rintro _ rfl
    simp only [ret_int, ret_bool, ret_flt, ret_slc, ret_str, ret_ptr, ret_agg, ret_tup, ob_some, bb_true, bb_false, List.getElem?_cons_zero, List.getElem?_cons_succ, List.length_cons, List.length_nil, Nat.reduceAdd, Nat.reduceLT]
    have td : IntKind.i64.wrap (Int.tdiv taps 2) = ((xs.length / 2 : Nat) : Int) := by
      rw [← hl, show Int.tdiv (xs.length : Int) 2 = ((xs.length / 2 : Nat) : Int) from rfl]; exact w64 (by omega)
    rw [td]
    refine Evp.ob (filter_ok lo A c xs _ level (Nat.le_trans hlo p1.len) (hx.pre p1) bx (by omega) _ _) ?_
    rintro _ ⟨a, cc, M1, rfl, p2, hb⟩
    simp only [ret_int, ret_bool, ret_flt, ret_slc, ret_str, ret_ptr, ret_agg, ret_tup, ob_some, bb_true, bb_false, List.getElem?_cons_zero, List.getElem?_cons_succ, List.length_cons, List.length_nil, Nat.reduceAdd, Nat.reduceLT]
    refine Evp.ret (good a cc M1 (p1.trans p2) ?_)
    have hb' := hb.floor (M0 := M) p1.len
    unfold edgeL edgeOf
    by_cases hs : smoothE xs (limitS level sharp) (2 * (level + 2) + limitS level sharp)
    · rw [if_pos hs] at hb'
      rw [if_pos ⟨e0, hs⟩]; exact hb'
    · rw [if_neg hs] at hb'
      rw [if_neg (fun e => hs e.2)]; exact hb'
end
end Go.Zt
