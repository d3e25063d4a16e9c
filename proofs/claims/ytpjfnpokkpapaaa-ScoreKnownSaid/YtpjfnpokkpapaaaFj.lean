/- ScoreKnown. -/
import Derived.Test.YtpjfnpokkpapaaaFf
set_option linter.unusedVariables false
set_option linter.unusedSimpArgs false
set_option maxRecDepth 100000
namespace Go.Zt
abbrev infK : Nat := fdiv .f64 4607182418800017408 0
abbrev belowK : Nat := fdiv .f64 13830554455654793216 0
abbrev noneK : Nat := fdiv .f64 0 0
abbrev zeroK : Nat := fdiv .f64 13830554455654793216 infK
section
variable (lo : Nat) (M0 : Mem) (hlo : lo ≤ M0.length)
theorem is_text {x : Nat} {t : ByteArray} (h : classS x = t) : ((classS x).toList == t.toList) = true := by rw [h]; simp
include hlo
theorem known_last (M : Mem) (p0 : Pre M0 M) : Run P T lo F.zoetropelaw06_ScoreKnown (zoetropelaw06_ScoreKnown.c32767 true true true true true M) fun r => r.1 = .bool true := by
  refine Run.cut (Evp.of_eq (fun k => zoetropelaw06_ScoreKnown.p32767 k ..) ?_)
  refine Evp.ob (works_ok lo M (Nat.le_trans hlo p0.len)) ?_
  rintro _ ⟨M1, rfl, p1⟩
  simp only [ret_int, ret_bool, ret_flt, ret_slc, ret_str, ret_ptr, ret_agg, ret_tup, ob_some, bb_true, bb_false, List.getElem?_cons_zero, List.getElem?_cons_succ, List.length_cons, List.length_nil, Nat.reduceAdd, Nat.reduceLT]
  exact Evp.ret (Run.ret rfl)
theorem known_classes (M : Mem) (p0 : Pre M0 M) : Run P T lo F.zoetropelaw06_ScoreKnown (zoetropelaw06_ScoreKnown.c16383 infK belowK noneK zeroK true true true true M) fun r => r.1 = .bool true := by
  refine Run.cut (Evp.of_eq (fun k => zoetropelaw06_ScoreKnown.p16383 k ..) ?_)
  refine Evp.ob (class_ok ..) ?_
  rintro _ rfl
  simp only [ret_int, ret_bool, ret_flt, ret_slc, ret_str, ret_ptr, ret_agg, ret_tup, ob_some, bb_true, bb_false, List.getElem?_cons_zero, List.getElem?_cons_succ, List.length_cons, List.length_nil, Nat.reduceAdd, Nat.reduceLT]
  refine Evp.tt (is_text (by kernel_rfl)) ?_
  refine Evp.ob (class_ok ..) ?_
  rintro _ rfl
  simp only [ret_int, ret_bool, ret_flt, ret_slc, ret_str, ret_ptr, ret_agg, ret_tup, ob_some, bb_true, bb_false, List.getElem?_cons_zero, List.getElem?_cons_succ, List.length_cons, List.length_nil, Nat.reduceAdd, Nat.reduceLT]
  refine Evp.tt (is_text (by kernel_rfl)) ?_
  refine Evp.ob (class_ok ..) ?_
  rintro _ rfl
  simp only [ret_int, ret_bool, ret_flt, ret_slc, ret_str, ret_ptr, ret_agg, ret_tup, ob_some, bb_true, bb_false, List.getElem?_cons_zero, List.getElem?_cons_succ, List.length_cons, List.length_nil, Nat.reduceAdd, Nat.reduceLT]
  refine Evp.tt (is_text (by kernel_rfl)) ?_
  refine Evp.ob (class_ok ..) ?_
  rintro _ rfl
  simp only [ret_int, ret_bool, ret_flt, ret_slc, ret_str, ret_ptr, ret_agg, ret_tup, ob_some, bb_true, bb_false, List.getElem?_cons_zero, List.getElem?_cons_succ, List.length_cons, List.length_nil, Nat.reduceAdd, Nat.reduceLT]
  refine Evp.tt (is_text (by kernel_rfl)) ?_
  refine Evp.ob (class_ok ..) ?_
  rintro _ rfl
  simp only [ret_int, ret_bool, ret_flt, ret_slc, ret_str, ret_ptr, ret_agg, ret_tup, ob_some, bb_true, bb_false, List.getElem?_cons_zero, List.getElem?_cons_succ, List.length_cons, List.length_nil, Nat.reduceAdd, Nat.reduceLT]
  refine Evp.tt (is_text (by kernel_rfl)) ?_
  refine Evp.ob (class_ok ..) ?_
  rintro _ rfl
  simp only [ret_int, ret_bool, ret_flt, ret_slc, ret_str, ret_ptr, ret_agg, ret_tup, ob_some, bb_true, bb_false, List.getElem?_cons_zero, List.getElem?_cons_succ, List.length_cons, List.length_nil, Nat.reduceAdd, Nat.reduceLT]
  refine Evp.tt (is_text (by kernel_rfl)) ?_
  refine Evp.ob (class_ok ..) ?_
  rintro _ rfl
  simp only [ret_int, ret_bool, ret_flt, ret_slc, ret_str, ret_ptr, ret_agg, ret_tup, ob_some, bb_true, bb_false, List.getElem?_cons_zero, List.getElem?_cons_succ, List.length_cons, List.length_nil, Nat.reduceAdd, Nat.reduceLT]
  refine Evp.tt (is_text (by kernel_rfl)) ?_
  refine Evp.ob (class_ok ..) ?_
  rintro _ rfl
  simp only [ret_int, ret_bool, ret_flt, ret_slc, ret_str, ret_ptr, ret_agg, ret_tup, ob_some, bb_true, bb_false, List.getElem?_cons_zero, List.getElem?_cons_succ, List.length_cons, List.length_nil, Nat.reduceAdd, Nat.reduceLT]
  refine Evp.tt (is_text (by kernel_rfl)) ?_
  refine Evp.ob (class_ok ..) ?_
  rintro _ rfl
  simp only [ret_int, ret_bool, ret_flt, ret_slc, ret_str, ret_ptr, ret_agg, ret_tup, ob_some, bb_true, bb_false, List.getElem?_cons_zero, List.getElem?_cons_succ, List.length_cons, List.length_nil, Nat.reduceAdd, Nat.reduceLT]
  refine Evp.tt (is_text (by kernel_rfl)) ?_
  refine Evp.ob (class_ok ..) ?_
  rintro _ rfl
  simp only [ret_int, ret_bool, ret_flt, ret_slc, ret_str, ret_ptr, ret_agg, ret_tup, ob_some, bb_true, bb_false, List.getElem?_cons_zero, List.getElem?_cons_succ, List.length_cons, List.length_nil, Nat.reduceAdd, Nat.reduceLT]
  refine Evp.tt (is_text (by kernel_rfl)) ?_
  refine Evp.ob (class_ok ..) ?_
  rintro _ rfl
  simp only [ret_int, ret_bool, ret_flt, ret_slc, ret_str, ret_ptr, ret_agg, ret_tup, ob_some, bb_true, bb_false, List.getElem?_cons_zero, List.getElem?_cons_succ, List.length_cons, List.length_nil, Nat.reduceAdd, Nat.reduceLT]
  rw [is_text (by kernel_rfl)]
  exact Evp.ret (known_last lo M0 hlo M p0)
theorem known_means (M : Mem) (p0 : Pre M0 M) : Run P T lo F.zoetropelaw06_ScoreKnown (zoetropelaw06_ScoreKnown.c8191 infK belowK noneK zeroK true true true M) fun r => r.1 = .bool true := by
  have mean : ∀ (xs : List Nat) (n : Nat) (N : Mem), xs.length = n → n ≤ 100 → Ac P T lo F.score_Mean [.slice (some ⟨N.length, 0, none⟩) n n] (N ++ [⟨.fx, xs.map (Value.float .f64)⟩]) fun r => ∃ N', r = (.float .f64 (meanS xs), N') ∧ Pre N N' := fun xs n N hn ln => by
    subst hn
    refine Ac.mono (mean_ok lo _ _ xs _ (RdF.lit xs) (by omega) (Nat.le_refl _)) ?_
    rintro _ rfl
    exact ⟨_, rfl, Pre.app _ _⟩
  refine Run.cut (Evp.of_eq (fun k => zoetropelaw06_ScoreKnown.p8191 k ..) ?_)
  refine Evp.ob (mean [4607182418800017408, 4611686018427387904, 4616189618054758400] 3 M rfl (by decide)) ?_
  rintro _ ⟨M1, rfl, p1⟩
  simp only [ret_int, ret_bool, ret_flt, ret_slc, ret_str, ret_ptr, ret_agg, ret_tup, ob_some, bb_true, bb_false, List.getElem?_cons_zero, List.getElem?_cons_succ, List.length_cons, List.length_nil, Nat.reduceAdd, Nat.reduceLT]
  refine Evp.tt (by kernel_rfl) ?_
  refine Evp.ob (mean_ok lo none 0 [] M1 Rd.zero (by decide) (Nat.le_refl _)) ?_
  rintro _ rfl
  simp only [ret_int, ret_bool, ret_flt, ret_slc, ret_str, ret_ptr, ret_agg, ret_tup, ob_some, bb_true, bb_false, List.getElem?_cons_zero, List.getElem?_cons_succ, List.length_cons, List.length_nil, Nat.reduceAdd, Nat.reduceLT]
  refine Evp.ob (class_ok ..) ?_
  rintro _ rfl
  simp only [ret_int, ret_bool, ret_flt, ret_slc, ret_str, ret_ptr, ret_agg, ret_tup, ob_some, bb_true, bb_false, List.getElem?_cons_zero, List.getElem?_cons_succ, List.length_cons, List.length_nil, Nat.reduceAdd, Nat.reduceLT]
  refine Evp.tt (is_text (by kernel_rfl)) ?_
  refine Evp.ob (mean [infK, belowK] 2 M1 rfl (by decide)) ?_
  rintro _ ⟨M2, rfl, p2⟩
  simp only [ret_int, ret_bool, ret_flt, ret_slc, ret_str, ret_ptr, ret_agg, ret_tup, ob_some, bb_true, bb_false, List.getElem?_cons_zero, List.getElem?_cons_succ, List.length_cons, List.length_nil, Nat.reduceAdd, Nat.reduceLT]
  refine Evp.ob (class_ok ..) ?_
  rintro _ rfl
  simp only [ret_int, ret_bool, ret_flt, ret_slc, ret_str, ret_ptr, ret_agg, ret_tup, ob_some, bb_true, bb_false, List.getElem?_cons_zero, List.getElem?_cons_succ, List.length_cons, List.length_nil, Nat.reduceAdd, Nat.reduceLT]
  refine Evp.tt (is_text (by kernel_rfl)) ?_
  refine Evp.ob (mean [zeroK] 1 M2 rfl (by decide)) ?_
  rintro _ ⟨M3, rfl, p3⟩
  simp only [ret_int, ret_bool, ret_flt, ret_slc, ret_str, ret_ptr, ret_agg, ret_tup, ob_some, bb_true, bb_false, List.getElem?_cons_zero, List.getElem?_cons_succ, List.length_cons, List.length_nil, Nat.reduceAdd, Nat.reduceLT]
  refine Evp.ob (class_ok ..) ?_
  rintro _ rfl
  simp only [ret_int, ret_bool, ret_flt, ret_slc, ret_str, ret_ptr, ret_agg, ret_tup, ob_some, bb_true, bb_false, List.getElem?_cons_zero, List.getElem?_cons_succ, List.length_cons, List.length_nil, Nat.reduceAdd, Nat.reduceLT]
  refine Evp.tt (is_text (by kernel_rfl)) ?_
  refine Evp.ob (mean [4846369599423283200, 4607182418800017408, 4607182418800017408, 14069741636278059008] 4 M3 rfl (by decide)) ?_
  rintro _ ⟨M4, rfl, p4⟩
  simp only [ret_int, ret_bool, ret_flt, ret_slc, ret_str, ret_ptr, ret_agg, ret_tup, ob_some, bb_true, bb_false, List.getElem?_cons_zero, List.getElem?_cons_succ, List.length_cons, List.length_nil, Nat.reduceAdd, Nat.reduceLT]
  refine Evp.tt (by kernel_rfl) ?_
  refine Evp.ob (mean [infK, 4607182418800017408] 2 M4 rfl (by decide)) ?_
  rintro _ ⟨M5, rfl, p5⟩
  simp only [ret_int, ret_bool, ret_flt, ret_slc, ret_str, ret_ptr, ret_agg, ret_tup, ob_some, bb_true, bb_false, List.getElem?_cons_zero, List.getElem?_cons_succ, List.length_cons, List.length_nil, Nat.reduceAdd, Nat.reduceLT]
  rw [show (FloatKind.f64.format.order (meanS [infK, 4607182418800017408]) infK == some .eq) = true by kernel_rfl]
  exact Evp.ret (known_classes lo M0 hlo M5 (p0.trans (p1.trans (p2.trans (p3.trans (p4.trans p5))))))
theorem known_bests (M : Mem) (p0 : Pre M0 M) : Run P T lo F.zoetropelaw06_ScoreKnown (zoetropelaw06_ScoreKnown.c63 infK belowK noneK zeroK true true M) fun r => r.1 = .bool true := by
  have best : ∀ (xs : List Nat) (n : Nat) (N : Mem) (i e : Int), xs.length = n → n ≤ 100 → (bestS xs n = i ∧ 0 ≤ i ∧ e = 0 ∨ bestS xs n < 0 ∧ i = 0 ∧ e = 2) → Ac P T lo F.score_Best [.slice (some ⟨N.length, 0, none⟩) n n] (N ++ [⟨.fx, xs.map (Value.float .f64)⟩]) fun r => ∃ N', r = (.tuple ⟨[.int .i64 i, .int .i64 e]⟩, N') ∧ Pre N N' := fun xs n N i e hn ln hb => by
    subst hn
    refine Ac.mono (best_ok lo _ _ xs _ (RdF.lit xs) (by omega)) ?_
    rintro _ rfl
    refine ⟨_, ?_, Pre.app N [⟨.fx, xs.map (Value.float .f64)⟩]⟩
    unfold bestR
    rcases hb with ⟨h1, h2, rfl⟩ | ⟨h1, rfl, rfl⟩
    · rw [if_neg (by omega), h1]
    · rw [if_pos h1]
  have none_ : ∀ N : Mem, Ac P T lo F.score_Best [.slice none 0 0] N fun r => r = (.tuple ⟨[.int .i64 0, .int .i64 2]⟩, N) := fun N => Ac.mono (best_ok lo none 0 [] N Rd.zero (by decide)) fun r h => h
  refine Run.cut (Evp.of_eq (fun k => zoetropelaw06_ScoreKnown.p63 k ..) ?_)
  refine Evp.ob (best [noneK, 0, zeroK] 3 M 1 0 rfl (by decide) (.inl ⟨by kernel_rfl, by decide, rfl⟩)) ?_
  rintro _ ⟨M1, rfl, p1⟩
  simp only [ret_int, ret_bool, ret_flt, ret_slc, ret_str, ret_ptr, ret_agg, ret_tup, ob_some, bb_true, bb_false, List.getElem?_cons_zero, List.getElem?_cons_succ, List.length_cons, List.length_nil, Nat.reduceAdd, Nat.reduceLT]
  refine Evp.ob (best [noneK, zeroK, 0] 3 M1 1 0 rfl (by decide) (.inl ⟨by kernel_rfl, by decide, rfl⟩)) ?_
  rintro _ ⟨M2, rfl, p2⟩
  simp only [ret_int, ret_bool, ret_flt, ret_slc, ret_str, ret_ptr, ret_agg, ret_tup, ob_some, bb_true, bb_false, List.getElem?_cons_zero, List.getElem?_cons_succ, List.length_cons, List.length_nil, Nat.reduceAdd, Nat.reduceLT]
  refine Evp.ob (none_ M2) ?_
  rintro _ rfl
  simp only [ret_int, ret_bool, ret_flt, ret_slc, ret_str, ret_ptr, ret_agg, ret_tup, ob_some, bb_true, bb_false, List.getElem?_cons_zero, List.getElem?_cons_succ, List.length_cons, List.length_nil, Nat.reduceAdd, Nat.reduceLT]
  refine Evp.ob (best [noneK, noneK] 2 M2 0 2 rfl (by decide) (.inr ⟨by rw [show bestS [noneK, noneK] 2 = -1 by kernel_rfl]; decide, rfl, rfl⟩)) ?_
  rintro _ ⟨M3, rfl, p3⟩
  simp only [ret_int, ret_bool, ret_flt, ret_slc, ret_str, ret_ptr, ret_agg, ret_tup, ob_some, bb_true, bb_false, List.getElem?_cons_zero, List.getElem?_cons_succ, List.length_cons, List.length_nil, Nat.reduceAdd, Nat.reduceLT]
  refine Evp.ob (best [infK, belowK] 2 M3 1 0 rfl (by decide) (.inl ⟨by kernel_rfl, by decide, rfl⟩)) ?_
  rintro _ ⟨M4, rfl, p4⟩
  simp only [ret_int, ret_bool, ret_flt, ret_slc, ret_str, ret_ptr, ret_agg, ret_tup, ob_some, bb_true, bb_false, List.getElem?_cons_zero, List.getElem?_cons_succ, List.length_cons, List.length_nil, Nat.reduceAdd, Nat.reduceLT]
  refine Evp.ob (best [infK] 1 M4 0 0 rfl (by decide) (.inl ⟨by kernel_rfl, by decide, rfl⟩)) ?_
  rintro _ ⟨M5, rfl, p5⟩
  simp only [ret_int, ret_bool, ret_flt, ret_slc, ret_str, ret_ptr, ret_agg, ret_tup, ob_some, bb_true, bb_false, List.getElem?_cons_zero, List.getElem?_cons_succ, List.length_cons, List.length_nil, Nat.reduceAdd, Nat.reduceLT]
  refine Evp.tt rfl (Evp.tt rfl (Evp.tt rfl (Evp.tt rfl (Evp.tt rfl (Evp.tt rfl (Evp.tt rfl (Evp.tt rfl (Evp.tt rfl ?_))))))))
  exact Evp.ret (known_means lo M0 hlo M5 (p0.trans (p1.trans (p2.trans (p3.trans (p4.trans p5))))))
theorem known_costs (M : Mem) (p0 : Pre M0 M) : Run P T lo F.zoetropelaw06_ScoreKnown (zoetropelaw06_ScoreKnown.c31 infK belowK noneK zeroK true M) fun r => r.1 = .bool true := by
  refine Run.cut (Evp.of_eq (fun k => zoetropelaw06_ScoreKnown.p31 k ..) ?_)
  refine Evp.ob (cost_ok ..) ?_
  rintro _ rfl
  simp only [ret_int, ret_bool, ret_flt, ret_slc, ret_str, ret_ptr, ret_agg, ret_tup, ob_some, bb_true, bb_false, List.getElem?_cons_zero, List.getElem?_cons_succ, List.length_cons, List.length_nil, Nat.reduceAdd, Nat.reduceLT]
  refine Evp.ob (class_ok ..) ?_
  rintro _ rfl
  simp only [ret_int, ret_bool, ret_flt, ret_slc, ret_str, ret_ptr, ret_agg, ret_tup, ob_some, bb_true, bb_false, List.getElem?_cons_zero, List.getElem?_cons_succ, List.length_cons, List.length_nil, Nat.reduceAdd, Nat.reduceLT]
  refine Evp.tt (is_text (by kernel_rfl)) ?_
  refine Evp.ob (cost_ok ..) ?_
  rintro _ rfl
  simp only [ret_int, ret_bool, ret_flt, ret_slc, ret_str, ret_ptr, ret_agg, ret_tup, ob_some, bb_true, bb_false, List.getElem?_cons_zero, List.getElem?_cons_succ, List.length_cons, List.length_nil, Nat.reduceAdd, Nat.reduceLT]
  refine Evp.tt (by kernel_rfl) ?_
  refine Evp.ob (cost_ok ..) ?_
  rintro _ rfl
  simp only [ret_int, ret_bool, ret_flt, ret_slc, ret_str, ret_ptr, ret_agg, ret_tup, ob_some, bb_true, bb_false, List.getElem?_cons_zero, List.getElem?_cons_succ, List.length_cons, List.length_nil, Nat.reduceAdd, Nat.reduceLT]
  refine Evp.tt (by kernel_rfl) ?_
  refine Evp.ob (cost_ok ..) ?_
  rintro _ rfl
  simp only [ret_int, ret_bool, ret_flt, ret_slc, ret_str, ret_ptr, ret_agg, ret_tup, ob_some, bb_true, bb_false, List.getElem?_cons_zero, List.getElem?_cons_succ, List.length_cons, List.length_nil, Nat.reduceAdd, Nat.reduceLT]
  refine Evp.tt (by kernel_rfl) ?_
  refine Evp.ob (cost_ok ..) ?_
  rintro _ rfl
  simp only [ret_int, ret_bool, ret_flt, ret_slc, ret_str, ret_ptr, ret_agg, ret_tup, ob_some, bb_true, bb_false, List.getElem?_cons_zero, List.getElem?_cons_succ, List.length_cons, List.length_nil, Nat.reduceAdd, Nat.reduceLT]
  refine Evp.tt (by kernel_rfl) ?_
  refine Evp.ob (cost_ok ..) ?_
  rintro _ rfl
  simp only [ret_int, ret_bool, ret_flt, ret_slc, ret_str, ret_ptr, ret_agg, ret_tup, ob_some, bb_true, bb_false, List.getElem?_cons_zero, List.getElem?_cons_succ, List.length_cons, List.length_nil, Nat.reduceAdd, Nat.reduceLT]
  refine Evp.tt (by kernel_rfl) ?_
  refine Evp.ob (cost_ok ..) ?_
  rintro _ rfl
  simp only [ret_int, ret_bool, ret_flt, ret_slc, ret_str, ret_ptr, ret_agg, ret_tup, ob_some, bb_true, bb_false, List.getElem?_cons_zero, List.getElem?_cons_succ, List.length_cons, List.length_nil, Nat.reduceAdd, Nat.reduceLT]
  refine Evp.ob (class_ok ..) ?_
  rintro _ rfl
  simp only [ret_int, ret_bool, ret_flt, ret_slc, ret_str, ret_ptr, ret_agg, ret_tup, ob_some, bb_true, bb_false, List.getElem?_cons_zero, List.getElem?_cons_succ, List.length_cons, List.length_nil, Nat.reduceAdd, Nat.reduceLT]
  rw [is_text (t := ⟨#[110, 111, 110, 101]⟩) (by kernel_rfl)]
  exact Evp.ret (known_bests lo M0 hlo M p0)
end
theorem ScoreKnown_law (M : Mem) (vs : List Value) (hro : AllRo M) (hv : LaysArgs P M [] vs) : Ac P T M.length F.zoetropelaw06_ScoreKnown vs M fun r => r.1 = .bool true := by
  obtain rfl := Arg.ScoreKnown hv
  have bx : ∀ l : List Int, l.all (fun x => decide (0 ≤ x) && decide (x ≤ 255)) = true → Bytes l := fun l h x hx => by
    have := List.all_eq_true.1 h x hx
    simpa using this
  have quo : ∀ N : Mem, Ac P T M.length F.zoetropelaw06_quotients [] N fun r => r = (.tuple ⟨[.float .f64 infK, .float .f64 belowK, .float .f64 noneK, .float .f64 zeroK]⟩, N) := fun N => by
    refine Ac.of (Evp.of_eq (fun k => zoetropelaw06_quotients.entry k ..) ?_)
    exact Evp.ret (Run.ret rfl)
  have ratio : ∀ (w h w' h' : Int) (A A' : Option Addr) (n c n' c' : Nat) (xs ys : List Int) (N : Mem), RdI N .u8 A xs → RdI N .u8 A' ys → xs.length = n → ys.length = n' → Bytes xs → Bytes ys → Ac P T M.length F.score_Ratio [.agg ⟨[.int .i64 w, .int .i64 h, .slice A n c]⟩, .agg ⟨[.int .i64 w', .int .i64 h', .slice A' n' c']⟩] N fun r => r = (.float .f64 (ratioS w h w' h' xs ys), N) := fun w h w' h' A A' n c n' c' xs ys N hx hy hn hn' b1 b2 => by
    subst hn; subst hn'
    exact ratio_ok _ _ _ _ _ _ _ _ _ _ _ _ hx hy b1 b2
  refine Ac.of (Evp.of_eq (fun k => zoetropelaw06_ScoreKnown.entry k ..) ?_)
  refine Evp.ob (quo M) ?_
  rintro _ rfl
  simp only [ret_int, ret_bool, ret_flt, ret_slc, ret_str, ret_ptr, ret_agg, ret_tup, ob_some, bb_true, bb_false, List.getElem?_cons_zero, List.getElem?_cons_succ, List.length_cons, List.length_nil, Nat.reduceAdd, Nat.reduceLT]
  refine Evp.ob (rowp_ok ..) ?_
  rintro _ rfl
  simp only [ret_int, ret_bool, ret_flt, ret_slc, ret_str, ret_ptr, ret_agg, ret_tup, ob_some, bb_true, bb_false, List.getElem?_cons_zero, List.getElem?_cons_succ, List.length_cons, List.length_nil, Nat.reduceAdd, Nat.reduceLT]
  have p1 := Pre.app M [⟨.fx, ([0, 0] : List Int).map (Value.int .u8)⟩]
  have ra : RdI (M ++ [⟨.fx, ([0, 0] : List Int).map (Value.int .u8)⟩]) .u8 (some ⟨M.length, 0, none⟩) [0, 0] := RdI.lit _
  have e1 : (M ++ [⟨.fx, [.int .u8 0, .int .u8 0]⟩] : Mem) = M ++ [⟨.fx, ([0, 0] : List Int).map (Value.int .u8)⟩] := rfl
  rw [e1]
  generalize (M ++ [⟨.fx, ([0, 0] : List Int).map (Value.int .u8)⟩] : Mem) = M1 at *
  clear e1
  refine Evp.ob (rowp_ok ..) ?_
  rintro _ rfl
  simp only [ret_int, ret_bool, ret_flt, ret_slc, ret_str, ret_ptr, ret_agg, ret_tup, ob_some, bb_true, bb_false, List.getElem?_cons_zero, List.getElem?_cons_succ, List.length_cons, List.length_nil, Nat.reduceAdd, Nat.reduceLT]
  have p2 := Pre.app M1 [⟨.fx, ([0, 1] : List Int).map (Value.int .u8)⟩]
  have rb : RdI (M1 ++ [⟨.fx, ([0, 1] : List Int).map (Value.int .u8)⟩]) .u8 (some ⟨M1.length, 0, none⟩) [0, 1] := RdI.lit _
  have e2 : (M1 ++ [⟨.fx, [.int .u8 0, .int .u8 1]⟩] : Mem) = M1 ++ [⟨.fx, ([0, 1] : List Int).map (Value.int .u8)⟩] := rfl
  rw [e2]
  generalize (M1 ++ [⟨.fx, ([0, 1] : List Int).map (Value.int .u8)⟩] : Mem) = M2 at *
  clear e2
  refine Evp.ob (rowp_ok ..) ?_
  rintro _ rfl
  simp only [ret_int, ret_bool, ret_flt, ret_slc, ret_str, ret_ptr, ret_agg, ret_tup, ob_some, bb_true, bb_false, List.getElem?_cons_zero, List.getElem?_cons_succ, List.length_cons, List.length_nil, Nat.reduceAdd, Nat.reduceLT]
  have p3 := Pre.app M2 [⟨.fx, ([255, 255] : List Int).map (Value.int .u8)⟩]
  have rc : RdI (M2 ++ [⟨.fx, ([255, 255] : List Int).map (Value.int .u8)⟩]) .u8 (some ⟨M2.length, 0, none⟩) [255, 255] := RdI.lit _
  have e3 : (M2 ++ [⟨.fx, [.int .u8 255, .int .u8 255]⟩] : Mem) = M2 ++ [⟨.fx, ([255, 255] : List Int).map (Value.int .u8)⟩] := rfl
  rw [e3]
  generalize (M2 ++ [⟨.fx, ([255, 255] : List Int).map (Value.int .u8)⟩] : Mem) = M3 at *
  clear e3
  have ra := ra.pre (p2.trans p3)
  have rb := rb.pre p3
  refine Evp.ob (ratio 2 1 2 1 _ _ 2 2 2 2 [0, 0] [0, 0] M3 ra ra rfl rfl (bx _ rfl) (bx _ rfl)) ?_
  rintro _ rfl
  simp only [ret_int, ret_bool, ret_flt, ret_slc, ret_str, ret_ptr, ret_agg, ret_tup, ob_some, bb_true, bb_false, List.getElem?_cons_zero, List.getElem?_cons_succ, List.length_cons, List.length_nil, Nat.reduceAdd, Nat.reduceLT]
  refine Evp.tt (by kernel_rfl) ?_
  refine Evp.ob (ratio 2 1 2 1 _ _ 2 2 2 2 [0, 0] [0, 1] M3 ra rb rfl rfl (bx _ rfl) (bx _ rfl)) ?_
  rintro _ rfl
  simp only [ret_int, ret_bool, ret_flt, ret_slc, ret_str, ret_ptr, ret_agg, ret_tup, ob_some, bb_true, bb_false, List.getElem?_cons_zero, List.getElem?_cons_succ, List.length_cons, List.length_nil, Nat.reduceAdd, Nat.reduceLT]
  refine Evp.tt (by kernel_rfl) ?_
  refine Evp.ob (ratio 2 1 2 1 _ _ 2 2 2 2 [0, 0] [255, 255] M3 ra rc rfl rfl (bx _ rfl) (bx _ rfl)) ?_
  rintro _ rfl
  simp only [ret_int, ret_bool, ret_flt, ret_slc, ret_str, ret_ptr, ret_agg, ret_tup, ob_some, bb_true, bb_false, List.getElem?_cons_zero, List.getElem?_cons_succ, List.length_cons, List.length_nil, Nat.reduceAdd, Nat.reduceLT]
  refine Evp.tt (by kernel_rfl) ?_
  refine Evp.ob (ratio 2 1 1 2 _ _ 2 2 2 2 [0, 0] [0, 0] _ (ra.pre (Pre.app _ _)) (RdI.lit (k := .u8) [0, 0]) rfl rfl (bx _ rfl) (bx _ rfl)) ?_
  rintro _ rfl
  simp only [ret_int, ret_bool, ret_flt, ret_slc, ret_str, ret_ptr, ret_agg, ret_tup, ob_some, bb_true, bb_false, List.getElem?_cons_zero, List.getElem?_cons_succ, List.length_cons, List.length_nil, Nat.reduceAdd, Nat.reduceLT]
  refine Evp.ob (class_ok ..) ?_
  rintro _ rfl
  simp only [ret_int, ret_bool, ret_flt, ret_slc, ret_str, ret_ptr, ret_agg, ret_tup, ob_some, bb_true, bb_false, List.getElem?_cons_zero, List.getElem?_cons_succ, List.length_cons, List.length_nil, Nat.reduceAdd, Nat.reduceLT]
  refine Evp.tt (is_text (by kernel_rfl)) ?_
  refine Evp.ob (ratio 0 0 0 0 none none 0 0 0 0 [] [] _ RdI.nil RdI.nil rfl rfl (bx _ rfl) (bx _ rfl)) ?_
  rintro _ rfl
  simp only [ret_int, ret_bool, ret_flt, ret_slc, ret_str, ret_ptr, ret_agg, ret_tup, ob_some, bb_true, bb_false, List.getElem?_cons_zero, List.getElem?_cons_succ, List.length_cons, List.length_nil, Nat.reduceAdd, Nat.reduceLT]
  refine Evp.ob (class_ok ..) ?_
  rintro _ rfl
  simp only [ret_int, ret_bool, ret_flt, ret_slc, ret_str, ret_ptr, ret_agg, ret_tup, ob_some, bb_true, bb_false, List.getElem?_cons_zero, List.getElem?_cons_succ, List.length_cons, List.length_nil, Nat.reduceAdd, Nat.reduceLT]
  rw [is_text (t := ⟨#[110, 111, 110, 101]⟩) (by kernel_rfl)]
  exact Evp.ret (known_costs M.length M (Nat.le_refl _) _ (((p1.trans p2).trans p3).trans (Pre.app _ _)))
end Go.Zt
