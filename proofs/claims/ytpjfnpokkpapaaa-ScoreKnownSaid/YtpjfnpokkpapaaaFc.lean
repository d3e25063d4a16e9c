/- That it works at all; the first laws. -/
import Derived.Test.YtpjfnpokkpapaaaFb
import Derived.Test.YtpjfnpokkpapaaaArg
set_option linter.unusedVariables false
set_option linter.unusedSimpArgs false
namespace Go.Zt
open Ieee
def bringS (i n : Int) : Int := if n ≤ 0 then 0 else i % n
theorem bring_ok (lo : Nat) (i n : Int) (M : Mem) (hn : n ≤ 9223372036854775807) : Ac P T lo F.zoetroperef00_Bring [.int .i64 i, .int .i64 n] M fun r => r = (.int .i64 (bringS i n), M) := by
  refine Ac.of (Evp.of_eq (fun k => zoetroperef00_Bring.entry k ..) ?_)
  unfold bringS
  refine Evp.dec (fun h => Evp.ret (Run.ret (by rw [if_pos h]))) fun h => ?_
  rw [if_neg h]
  refine Evp.neg (by omega) ?_
  have h1 : Int.tmod i n = if i % n = 0 ∨ 0 ≤ i then i % n else i % n - n := by
    rw [Int.tmod_eq_emod]
    by_cases h2 : 0 ≤ i ∨ n ∣ i
    · rw [if_pos h2, if_pos (by rcases h2 with h2 | h2; exact .inr h2; exact .inl (Int.emod_eq_zero_of_dvd h2))]; omega
    · rw [if_neg h2, if_neg (by rintro (h3 | h3); exact h2 (.inr (Int.dvd_of_emod_eq_zero h3)); exact h2 (.inl h3))]; omega
  have h2 := Int.emod_nonneg i (b := n) (by omega)
  have h3 := Int.emod_lt_of_pos i (b := n) (by omega)
  refine Evp.dec (fun h4 => Evp.ret ?_) fun h4 => Evp.ret ?_
  · refine Run.cut (Evp.of_eq (fun k => zoetroperef00_Bring.p31 k ..) ?_)
    refine Evp.ret (Run.ret ?_)
    have e : Int.tmod i n + n = i % n := by
      rw [h1] at h4 ⊢
      split at h4
      · omega
      · rename_i h5; rw [if_neg h5]; omega
    rw [e, w64 (by omega)]
  · refine Run.cut (Evp.of_eq (fun k => zoetroperef00_Bring.p31 k ..) ?_)
    refine Evp.ret (Run.ret ?_)
    have e : Int.tmod i n = i % n := by
      rw [h1] at h4 ⊢
      split at h4
      · rename_i h5; rw [if_pos h5]
      · omega
    rw [e]
theorem bringS_lt {i n : Int} (h : 0 < n) : 0 ≤ bringS i n ∧ bringS i n < n := by
  unfold bringS
  rw [if_neg (by omega)]
  exact ⟨Int.emod_nonneg i (by omega), Int.emod_lt_of_pos i h⟩
theorem rowp_ok (lo : Nat) (A : Option Addr) (n c : Nat) (M : Mem) : Ac P T lo F.zoetropelaw06_row [.slice A n c] M fun r => r = (.agg ⟨[.int .i64 n, .int .i64 1, .slice A n c]⟩, M) := by
  refine Ac.of (Evp.of_eq (fun k => zoetropelaw06_row.entry k ..) ?_)
  exact Evp.ret (Run.ret rfl)
theorem works_ok (lo : Nat) (M : Mem) (hlo : lo ≤ M.length) : Ac P T lo F.zoetropelaw06_works [] M fun r => ∃ M', r = (.bool true, M') ∧ Pre M M' := by
  refine Ac.of (Evp.of_eq (fun k => zoetropelaw06_works.entry k ..) ?_)
  refine Evp.ob (best_ok _ _ _ [4613937818241073152, 4607182418800017408, 4607182418800017408] _ (RdF.lit _) (by decide)) ?_
  rintro _ rfl
  have e1 : bestR [4613937818241073152, 4607182418800017408, 4607182418800017408] = .tuple ⟨[.int .i64 1, .int .i64 0]⟩ := by
    have : bestS [4613937818241073152, 4607182418800017408, 4607182418800017408] 3 = 1 := by kernel_rfl
    unfold bestR
    rw [show ([4613937818241073152, 4607182418800017408, 4607182418800017408] : List Nat).length = 3 from rfl, this]
    rfl
  rw [e1]
  simp only [ret_int, ret_bool, ret_flt, ret_slc, ret_str, ret_ptr, ret_agg, ret_tup, ob_some, bb_true, bb_false, List.getElem?_cons_zero, List.getElem?_cons_succ, List.length_cons, List.length_nil, Nat.reduceAdd, Nat.reduceLT]
  refine Evp.tt rfl (Evp.tt rfl ?_)
  refine Evp.ob (rowp_ok ..) ?_
  rintro _ rfl
  simp only [ret_int, ret_bool, ret_flt, ret_slc, ret_str, ret_ptr, ret_agg, ret_tup, ob_some, bb_true, bb_false, List.getElem?_cons_zero, List.getElem?_cons_succ, List.length_cons, List.length_nil, Nat.reduceAdd, Nat.reduceLT]
  refine Evp.ob (rowp_ok ..) ?_
  rintro _ rfl
  simp only [ret_int, ret_bool, ret_flt, ret_slc, ret_str, ret_ptr, ret_agg, ret_tup, ob_some, bb_true, bb_false, List.getElem?_cons_zero, List.getElem?_cons_succ, List.length_cons, List.length_nil, Nat.reduceAdd, Nat.reduceLT]
  refine Evp.ob (ratio_ok _ _ _ _ _ _ _ _ _ [0, 0] [0, 1] _ ((RdI.lit (k := .u8) [0, 0]).pre (Pre.app _ _)) (RdI.lit _) (by intro x hx; simp at hx; omega) (by intro x hx; simp at hx; omega)) ?_
  rintro _ rfl
  simp only [ret_int, ret_bool, ret_flt, ret_slc, ret_str, ret_ptr, ret_agg, ret_tup, ob_some, bb_true, bb_false, List.getElem?_cons_zero, List.getElem?_cons_succ, List.length_cons, List.length_nil, Nat.reduceAdd, Nat.reduceLT]
  refine Evp.tt (by kernel_rfl) ?_
  refine Evp.ob (cost_ok ..) ?_
  rintro _ rfl
  simp only [ret_int, ret_bool, ret_flt, ret_slc, ret_str, ret_ptr, ret_agg, ret_tup, ob_some, bb_true, bb_false, List.getElem?_cons_zero, List.getElem?_cons_succ, List.length_cons, List.length_nil, Nat.reduceAdd, Nat.reduceLT]
  refine Evp.tt (by kernel_rfl) ?_
  refine Evp.ob (mean_ok _ _ _ [4607182418800017408, 4611686018427387904, 4618441417868443648] _ (RdF.lit _) (by decide) (by decide)) ?_
  rintro _ rfl
  simp only [ret_int, ret_bool, ret_flt, ret_slc, ret_str, ret_ptr, ret_agg, ret_tup, ob_some, bb_true, bb_false, List.getElem?_cons_zero, List.getElem?_cons_succ, List.length_cons, List.length_nil, Nat.reduceAdd, Nat.reduceLT]
  refine Evp.tt (by kernel_rfl) ?_
  refine Evp.ob (class_ok ..) ?_
  rintro _ rfl
  simp only [ret_int, ret_bool, ret_flt, ret_slc, ret_str, ret_ptr, ret_agg, ret_tup, ob_some, bb_true, bb_false, List.getElem?_cons_zero, List.getElem?_cons_succ, List.length_cons, List.length_nil, Nat.reduceAdd, Nat.reduceLT]
  rw [show classS 4602678819172646912 = ⟨#[108, 111, 119]⟩ by kernel_rfl, show ((⟨#[108, 111, 119]⟩ : ByteArray).toList == (⟨#[108, 111, 119]⟩ : ByteArray).toList) = true by simp]
  exact Evp.ret (Run.ret ⟨_, rfl, (((Pre.app _ _).trans (Pre.app _ _)).trans (Pre.app _ _)).trans (Pre.app _ _)⟩)

theorem ScoreRatios_law (M : Mem) (vs : List Value) (hro : AllRo M) (h : LaysArgs P M [24, 24] vs) : Ac P T M.length F.zoetropelaw06_ScoreRatios vs M fun r => r.1 = .bool true := by
  obtain ⟨w, h, A, c, xs, w', h', A', c', ys, rfl, _, _, hc, hn, hx, wx, _, _, hc', hn', hy, wy⟩ := Arg.ScoreRatios h
  have bx : Bytes xs := fun x hx => wf_u8 (wx x hx)
  have by_ : Bytes ys := fun x hx => wf_u8 (wy x hx)
  refine Ac.of (Evp.of_eq (fun k => zoetropelaw06_ScoreRatios.entry k ..) ?_)
  refine Evp.ob (copyPlane_ok _ _ _ _ _ _ _ hx (by omega)) ?_
  rintro _ ⟨B, d, M1, rfl, p1, g1, k1⟩
  simp only [ret_int, ret_bool, ret_flt, ret_slc, ret_str, ret_ptr, ret_agg, ret_tup, ob_some, bb_true, bb_false, List.getElem?_cons_zero, List.getElem?_cons_succ, List.length_cons, List.length_nil, Nat.reduceAdd, Nat.reduceLT]
  refine Evp.ob (copyPlane_ok _ _ _ _ _ _ _ (hy.pre p1) (by omega)) ?_
  rintro _ ⟨B', d', M2, rfl, p2, g2, k2⟩
  simp only [ret_int, ret_bool, ret_flt, ret_slc, ret_str, ret_ptr, ret_agg, ret_tup, ob_some, bb_true, bb_false, List.getElem?_cons_zero, List.getElem?_cons_succ, List.length_cons, List.length_nil, Nat.reduceAdd, Nat.reduceLT]
  have hx2 := hx.pre (p1.trans p2)
  have hy2 := hy.pre (p1.trans p2)
  have kx := (k1.pre p2).rdI
  have ky := k2.rdI
  refine Evp.ob (ratio_ok _ _ _ _ _ _ _ _ _ _ _ _ kx ky bx by_) ?_
  rintro _ rfl
  simp only [ret_int, ret_bool, ret_flt, ret_slc, ret_str, ret_ptr, ret_agg, ret_tup, ob_some, bb_true, bb_false, List.getElem?_cons_zero, List.getElem?_cons_succ, List.length_cons, List.length_nil, Nat.reduceAdd, Nat.reduceLT]
  refine Evp.ob (rratio_ok _ _ _ _ _ _ _ _ _ _ _ _ hx2 hy2 bx by_) ?_
  rintro _ rfl
  simp only [ret_int, ret_bool, ret_flt, ret_slc, ret_str, ret_ptr, ret_agg, ret_tup, ob_some, bb_true, bb_false, List.getElem?_cons_zero, List.getElem?_cons_succ, List.length_cons, List.length_nil, Nat.reduceAdd, Nat.reduceLT]
  refine Evp.ob (sameF_ok ..) ?_
  rintro _ rfl
  simp only [ret_int, ret_bool, ret_flt, ret_slc, ret_str, ret_ptr, ret_agg, ret_tup, ob_some, bb_true, bb_false, List.getElem?_cons_zero, List.getElem?_cons_succ, List.length_cons, List.length_nil, Nat.reduceAdd, Nat.reduceLT]
  refine Evp.tt (sameF_self _) ?_
  refine Evp.ob (ratio_ok _ _ _ _ _ _ _ _ _ _ _ _ kx kx bx bx) ?_
  rintro _ rfl
  simp only [ret_int, ret_bool, ret_flt, ret_slc, ret_str, ret_ptr, ret_agg, ret_tup, ob_some, bb_true, bb_false, List.getElem?_cons_zero, List.getElem?_cons_succ, List.length_cons, List.length_nil, Nat.reduceAdd, Nat.reduceLT]
  refine Evp.ob (rratio_ok _ _ _ _ _ _ _ _ _ _ _ _ hx2 hx2 bx bx) ?_
  rintro _ rfl
  simp only [ret_int, ret_bool, ret_flt, ret_slc, ret_str, ret_ptr, ret_agg, ret_tup, ob_some, bb_true, bb_false, List.getElem?_cons_zero, List.getElem?_cons_succ, List.length_cons, List.length_nil, Nat.reduceAdd, Nat.reduceLT]
  refine Evp.ob (sameF_ok ..) ?_
  rintro _ rfl
  simp only [ret_int, ret_bool, ret_flt, ret_slc, ret_str, ret_ptr, ret_agg, ret_tup, ob_some, bb_true, bb_false, List.getElem?_cons_zero, List.getElem?_cons_succ, List.length_cons, List.length_nil, Nat.reduceAdd, Nat.reduceLT]
  refine Evp.tt (sameF_self _) ?_
  refine Evp.ob (rsame_ok _ _ _ _ _ _ _ _ _ _ _ _ kx hx2 (by omega)) ?_
  rintro _ rfl
  simp only [ret_int, ret_bool, ret_flt, ret_slc, ret_str, ret_ptr, ret_agg, ret_tup, ob_some, bb_true, bb_false, List.getElem?_cons_zero, List.getElem?_cons_succ, List.length_cons, List.length_nil, Nat.reduceAdd, Nat.reduceLT]
  refine Evp.tt (by simp) ?_
  refine Evp.ob (rsame_ok _ _ _ _ _ _ _ _ _ _ _ _ ky hy2 (by omega)) ?_
  rintro _ rfl
  simp only [ret_int, ret_bool, ret_flt, ret_slc, ret_str, ret_ptr, ret_agg, ret_tup, ob_some, bb_true, bb_false, List.getElem?_cons_zero, List.getElem?_cons_succ, List.length_cons, List.length_nil, Nat.reduceAdd, Nat.reduceLT]
  refine Evp.tt (by simp) ?_
  refine Evp.ob (works_ok _ _ (Pre.len (p1.trans p2))) ?_
  rintro _ ⟨M3, rfl, _⟩
  simp only [ret_int, ret_bool, ret_flt, ret_slc, ret_str, ret_ptr, ret_agg, ret_tup, ob_some, bb_true, bb_false, List.getElem?_cons_zero, List.getElem?_cons_succ, List.length_cons, List.length_nil, Nat.reduceAdd, Nat.reduceLT]
  exact Evp.ret (Run.ret rfl)

theorem costs_loop (lo : Nat) (d rate : Int) (l : Nat) (M : Mem) (hlo : lo ≤ M.length) : ∀ (n i : Nat), 8 - i = n → i ≤ 8 → Run P T lo F.zoetropelaw06_ScoreCosts (zoetropelaw06_ScoreCosts.c52 d rate l i M) fun r => r.1 = .bool true := by
  intro n
  induction n with
  | zero =>
    intro i hd hi
    refine Run.cut (Evp.of_eq (fun k => zoetropelaw06_ScoreCosts.p52 k ..) ?_)
    refine Evp.dec (fun h => absurd h (by omega)) fun _ => ?_
    refine Evp.ob (works_ok _ _ hlo) ?_
    rintro _ ⟨M3, rfl, _⟩
    simp only [ret_int, ret_bool, ret_flt, ret_slc, ret_str, ret_ptr, ret_agg, ret_tup, ob_some, bb_true, bb_false, List.getElem?_cons_zero, List.getElem?_cons_succ, List.length_cons, List.length_nil, Nat.reduceAdd, Nat.reduceLT]
    exact Evp.ret (Run.ret rfl)
  | succ n ih =>
    intro i hd hi
    refine Run.cut (Evp.of_eq (fun k => zoetropelaw06_ScoreCosts.p52 k ..) ?_)
    refine Evp.dec (fun _ => ?_) fun h => absurd h (by omega)
    rw [w64 (x := 8 * (i : Int)) (by omega), w64 (x := (i : Int) + 1) (by omega)]
    refine Evp.neg (by omega) ?_
    refine Evp.ob (cost_ok ..) ?_
    rintro _ rfl
    simp only [ret_int, ret_bool, ret_flt, ret_slc, ret_str, ret_ptr, ret_agg, ret_tup, ob_some, bb_true, bb_false, List.getElem?_cons_zero, List.getElem?_cons_succ, List.length_cons, List.length_nil, Nat.reduceAdd, Nat.reduceLT]
    refine Evp.neg (by omega) ?_
    refine Evp.ob (rcost_ok ..) ?_
    rintro _ rfl
    simp only [ret_int, ret_bool, ret_flt, ret_slc, ret_str, ret_ptr, ret_agg, ret_tup, ob_some, bb_true, bb_false, List.getElem?_cons_zero, List.getElem?_cons_succ, List.length_cons, List.length_nil, Nat.reduceAdd, Nat.reduceLT]
    refine Evp.ob (sameF_ok ..) ?_
    rintro _ rfl
    simp only [ret_int, ret_bool, ret_flt, ret_slc, ret_str, ret_ptr, ret_agg, ret_tup, ob_some, bb_true, bb_false, List.getElem?_cons_zero, List.getElem?_cons_succ, List.length_cons, List.length_nil, Nat.reduceAdd, Nat.reduceLT]
    refine Evp.ff (by rw [sameF_self]; rfl) ?_
    refine Evp.neg (by omega) ?_
    refine Evp.ob (cost_ok ..) ?_
    rintro _ rfl
    simp only [ret_int, ret_bool, ret_flt, ret_slc, ret_str, ret_ptr, ret_agg, ret_tup, ob_some, bb_true, bb_false, List.getElem?_cons_zero, List.getElem?_cons_succ, List.length_cons, List.length_nil, Nat.reduceAdd, Nat.reduceLT]
    refine Evp.neg (by omega) ?_
    refine Evp.ob (rcost_ok ..) ?_
    rintro _ rfl
    simp only [ret_int, ret_bool, ret_flt, ret_slc, ret_str, ret_ptr, ret_agg, ret_tup, ob_some, bb_true, bb_false, List.getElem?_cons_zero, List.getElem?_cons_succ, List.length_cons, List.length_nil, Nat.reduceAdd, Nat.reduceLT]
    refine Evp.ob (sameF_ok ..) ?_
    rintro _ rfl
    simp only [ret_int, ret_bool, ret_flt, ret_slc, ret_str, ret_ptr, ret_agg, ret_tup, ob_some, bb_true, bb_false, List.getElem?_cons_zero, List.getElem?_cons_succ, List.length_cons, List.length_nil, Nat.reduceAdd, Nat.reduceLT]
    refine Evp.ff (by rw [sameF_self]; rfl) ?_
    exact Evp.ret (ih (i + 1) (by omega) (by omega))
theorem ScoreCosts_law (M : Mem) (vs : List Value) (hro : AllRo M) (h : LaysArgs P M [31, 31, 27] vs) : Ac P T M.length F.zoetropelaw06_ScoreCosts vs M fun r => r.1 = .bool true := by
  obtain ⟨d, rate, l, rfl, _, _, _⟩ := Arg.ScoreCosts h
  refine Ac.of (Evp.of_eq (fun k => zoetropelaw06_ScoreCosts.entry k ..) ?_)
  exact Evp.ret (costs_loop _ d rate l M (Nat.le_refl _) 8 0 rfl (by omega))

theorem lists_loop (lo : Nat) (A A' : Option Addr) (c c' : Nat) (xs : List Nat) (M : Mem) (hx : RdF M .f64 A xs) (hy : RdF M .f64 A' xs) (hn : xs.length ≤ 140737488351232) (hlo : lo ≤ M.length) :
    ∀ (d i : Nat), xs.length - i = d → i ≤ xs.length → Run P T lo F.zoetropelaw06_ScoreLists (zoetropelaw06_ScoreLists.c2036 A xs.length c A' xs.length c' i M) fun r => r.1 = .bool true := by
  intro d
  induction d with
  | zero =>
    intro i hd hi
    refine Run.cut (Evp.of_eq (fun k => zoetropelaw06_ScoreLists.p2036 k ..) ?_)
    refine Evp.dec (fun h => absurd h (by omega)) fun _ => ?_
    refine Evp.ob (works_ok _ _ hlo) ?_
    rintro _ ⟨M3, rfl, _⟩
    simp only [ret_int, ret_bool, ret_flt, ret_slc, ret_str, ret_ptr, ret_agg, ret_tup, ob_some, bb_true, bb_false, List.getElem?_cons_zero, List.getElem?_cons_succ, List.length_cons, List.length_nil, Nat.reduceAdd, Nat.reduceLT]
    exact Evp.ret (Run.ret rfl)
  | succ d ih =>
    intro i hd hi
    refine Run.cut (Evp.of_eq (fun k => zoetropelaw06_ScoreLists.p2036 k ..) ?_)
    refine Evp.dec (fun _ => ?_) fun h => absurd h (by omega)
    refine Evp.pos (by omega) ?_
    simp only [Int.toNat_natCast]
    refine Evp.ldF hy (by omega) fun a _ => ?_
    refine Evp.ob (class_ok ..) ?_
    rintro _ rfl
    simp only [ret_int, ret_bool, ret_flt, ret_slc, ret_str, ret_ptr, ret_agg, ret_tup, ob_some, bb_true, bb_false, List.getElem?_cons_zero, List.getElem?_cons_succ, List.length_cons, List.length_nil, Nat.reduceAdd, Nat.reduceLT]
    refine Evp.pos (by omega) ?_
    obtain ⟨a, rfl, h1, h2⟩ := hx.ld (i := i) (by omega)
    refine Evp.some rfl ?_
    rw [if_pos (by rw [plus_eq]; exact h1), h2]
    simp only [ret_int, ret_bool, ret_flt, ret_slc, ret_str, ret_ptr, ret_agg, ret_tup, ob_some, bb_true, bb_false, List.getElem?_cons_zero, List.getElem?_cons_succ, List.length_cons, List.length_nil, Nat.reduceAdd, Nat.reduceLT]
    refine Evp.ob (rclass_ok ..) ?_
    rintro _ rfl
    simp only [ret_int, ret_bool, ret_flt, ret_slc, ret_str, ret_ptr, ret_agg, ret_tup, ob_some, bb_true, bb_false, List.getElem?_cons_zero, List.getElem?_cons_succ, List.length_cons, List.length_nil, Nat.reduceAdd, Nat.reduceLT]
    refine Evp.ff (by simp) ?_
    refine Evp.pos (by omega) ?_
    refine Evp.ldF hy (by omega) fun a _ => ?_
    refine Evp.pos (by omega) ?_
    refine Evp.ldF hx (by omega) fun a _ => ?_
    refine Evp.ob (sameF_ok ..) ?_
    rintro _ rfl
    simp only [ret_int, ret_bool, ret_flt, ret_slc, ret_str, ret_ptr, ret_agg, ret_tup, ob_some, bb_true, bb_false, List.getElem?_cons_zero, List.getElem?_cons_succ, List.length_cons, List.length_nil, Nat.reduceAdd, Nat.reduceLT]
    refine Evp.ff (by rw [sameF_self]; rfl) ?_
    rw [w64 (by omega)]
    exact Evp.ret (ih (i + 1) (by omega) (by omega))
theorem ScoreLists_law (M : Mem) (vs : List Value) (hro : AllRo M) (h : LaysArgs P M [34] vs) : Ac P T M.length F.zoetropelaw06_ScoreLists vs M fun r => r.1 = .bool true := by
  obtain ⟨A, c, xs, rfl, hc, hn, hx, _⟩ := Arg.ScoreLists h
  refine Ac.of (Evp.of_eq (fun k => zoetropelaw06_ScoreLists.entry k ..) ?_)
  refine Evp.some hx.src ?_
  obtain ⟨s, M', h1, h2, h3, h4, _, h5⟩ := (Grow.nil (M0 := M) (M := M) (z := 1)).app (bytes := 8) (c := 0) (m := xs.length) (vs := xs.map (Value.float .f64)) (Pre.refl M) (Nat.le_refl _) (by simp) (by omega) (by omega)
  rw [Nat.zero_add] at h3
  refine Evp.some h1 ?_
  have hy : RdF M' .f64 s.a xs := by rw [h3] at h2; exact h2.rd
  have h5 := h5 (Nat.zero_le _)
  simp only [h3] at h5 ⊢
  have hx := hx.pre h4
  refine Evp.ob (best_ok _ _ _ _ _ hy (by omega)) ?_
  rintro _ rfl
  simp only [ret_int, ret_bool, ret_flt, ret_slc, ret_str, ret_ptr, ret_agg, ret_tup, ob_some, bb_true, bb_false, List.getElem?_cons_zero, List.getElem?_cons_succ, List.length_cons, List.length_nil, Nat.reduceAdd, Nat.reduceLT]
  have hb := bestS_lt xs xs.length
  have fin : Evp (fun k => ob (acall P T k M.length F.score_Mean [.slice s.a xs.length s.c] M') fun r19 =>
      ob ((some r19.1).bind (Value.flt? .f64)) fun y20 =>
      ob (acall P T k M.length F.zoetroperef06_Mean [.slice A xs.length c] r19.2) fun r21 =>
      ob ((some r21.1).bind (Value.flt? .f64)) fun y22 =>
      ob (acall P T k M.length F.zoetroperef06_Same [.float .f64 y20, .float .f64 y22] r21.2) fun r23 =>
      ob ((some r23.1).bind Value.bool?) fun b24 =>
      bb (!b24) (some (.ret (.bool false) r23.2)) (some (zoetropelaw06_ScoreLists.c2036 A xs.length c s.a xs.length s.c 0 r23.2))) fun out => Run P T M.length F.zoetropelaw06_ScoreLists out fun r => r.1 = .bool true := by
    refine Evp.ob (mean_ok _ _ _ _ _ hy (by omega) h5) ?_
    rintro _ rfl
    simp only [ret_int, ret_bool, ret_flt, ret_slc, ret_str, ret_ptr, ret_agg, ret_tup, ob_some, bb_true, bb_false, List.getElem?_cons_zero, List.getElem?_cons_succ, List.length_cons, List.length_nil, Nat.reduceAdd, Nat.reduceLT]
    refine Evp.ob (rmean_ok _ _ _ _ _ hx (by omega)) ?_
    rintro _ rfl
    simp only [ret_int, ret_bool, ret_flt, ret_slc, ret_str, ret_ptr, ret_agg, ret_tup, ob_some, bb_true, bb_false, List.getElem?_cons_zero, List.getElem?_cons_succ, List.length_cons, List.length_nil, Nat.reduceAdd, Nat.reduceLT]
    refine Evp.ob (sameF_ok ..) ?_
    rintro _ rfl
    simp only [ret_int, ret_bool, ret_flt, ret_slc, ret_str, ret_ptr, ret_agg, ret_tup, ob_some, bb_true, bb_false, List.getElem?_cons_zero, List.getElem?_cons_succ, List.length_cons, List.length_nil, Nat.reduceAdd, Nat.reduceLT]
    refine Evp.ff (by rw [sameF_self]; rfl) ?_
    exact Evp.ret (lists_loop _ _ _ _ _ _ _ hx hy (by omega) h4.len _ 0 rfl (by omega))
  unfold bestR
  split
  · rename_i hlt
    simp only [ret_int, ret_bool, ret_flt, ret_slc, ret_str, ret_ptr, ret_agg, ret_tup, ob_some, bb_true, bb_false, List.getElem?_cons_zero, List.getElem?_cons_succ, List.length_cons, List.length_nil, Nat.reduceAdd, Nat.reduceLT]
    refine Evp.ob (rbest_ok _ _ _ _ _ hx (by omega)) ?_
    rintro _ rfl
    simp only [ret_int, ret_bool, ret_flt, ret_slc, ret_str, ret_ptr, ret_agg, ret_tup, ob_some, bb_true, bb_false, List.getElem?_cons_zero, List.getElem?_cons_succ, List.length_cons, List.length_nil, Nat.reduceAdd, Nat.reduceLT]
    unfold bestR
    rw [if_pos hlt]
    simp only [ret_int, ret_bool, ret_flt, ret_slc, ret_str, ret_ptr, ret_agg, ret_tup, ob_some, bb_true, bb_false, List.getElem?_cons_zero, List.getElem?_cons_succ, List.length_cons, List.length_nil, Nat.reduceAdd, Nat.reduceLT]
    refine Evp.ff (by simp) ?_
    refine Evp.ff (by simp) ?_
    exact fin
  · rename_i hlt
    simp only [ret_int, ret_bool, ret_flt, ret_slc, ret_str, ret_ptr, ret_agg, ret_tup, ob_some, bb_true, bb_false, List.getElem?_cons_zero, List.getElem?_cons_succ, List.length_cons, List.length_nil, Nat.reduceAdd, Nat.reduceLT]
    refine Evp.ob (rbest_ok _ _ _ _ _ hx (by omega)) ?_
    rintro _ rfl
    simp only [ret_int, ret_bool, ret_flt, ret_slc, ret_str, ret_ptr, ret_agg, ret_tup, ob_some, bb_true, bb_false, List.getElem?_cons_zero, List.getElem?_cons_succ, List.length_cons, List.length_nil, Nat.reduceAdd, Nat.reduceLT]
    unfold bestR
    rw [if_neg hlt]
    simp only [ret_int, ret_bool, ret_flt, ret_slc, ret_str, ret_ptr, ret_agg, ret_tup, ob_some, bb_true, bb_false, List.getElem?_cons_zero, List.getElem?_cons_succ, List.length_cons, List.length_nil, Nat.reduceAdd, Nat.reduceLT]
    refine Evp.ff (by simp) ?_
    refine Evp.ff (by simp) ?_
    exact fin
end Go.Zt
