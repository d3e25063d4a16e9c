/- What is farther, or takes more, costs no less; a mean of whole numbers lies between. -/
import Derived.Test.YtpjfnpokkpapaaaFe
import Derived.Test.YtpjfnpokkpapaaaFc
set_option linter.unusedVariables false
set_option linter.unusedSimpArgs false
set_option maxRecDepth 10000
set_option exponentiation.threshold 5000
namespace Go.Zt
open Ieee
theorem ScoreDearer_law (M : Mem) (vs : List Value) (hro : AllRo M) (h : LaysArgs P M [41, 41, 27] vs) : Ac P T M.length F.zoetropelaw06_ScoreDearer vs M fun r => r.1 = .bool true := by
  obtain ⟨d1, d2, r1, r2, l, rfl, wd1, wd2, wr1, wr2, _⟩ := Arg.ScoreDearer h
  have wu : ∀ z : Int, (Lit.int .u64 z).wf = true → 0 ≤ z ∧ z < 2 ^ 64 := fun z hz => by
    simp [Lit.wf, IntKind.min, IntKind.max, IntKind.signed, IntKind.bits] at hz; omega
  have b1 := wu _ wd1
  have b2 := wu _ wd2
  have b3 := wu _ wr1
  have b4 := wu _ wr2
  have hd : 0 ≤ minI d1 d2 ∧ minI d1 d2 ≤ maxI d1 d2 ∧ maxI d1 d2 < 2 ^ 64 := by unfold minI maxI; split <;> split <;> omega
  have hr : 0 ≤ minI r1 r2 ∧ minI r1 r2 ≤ maxI r1 r2 ∧ maxI r1 r2 < 2 ^ 64 := by unfold minI maxI; split <;> split <;> omega
  refine Ac.of (Evp.of_eq (fun k => zoetropelaw06_ScoreDearer.entry k ..) ?_)
  refine Evp.ob (works_ok _ _ (Nat.le_refl _)) ?_
  rintro _ ⟨M3, rfl, _⟩
  simp only [ret_int, ret_bool, ret_flt, ret_slc, ret_str, ret_ptr, ret_agg, ret_tup, ob_some, bb_true, bb_false, List.getElem?_cons_zero, List.getElem?_cons_succ, List.length_cons, List.length_nil, Nat.reduceAdd, Nat.reduceLT]
  refine Evp.ff rfl ?_
  refine Evp.bb (fun _ => Evp.ret (Run.ret rfl)) fun hn => ?_
  obtain ⟨a, ha⟩ := key_some (x := l) hn
  refine Evp.bb (fun _ => Evp.ret (Run.ret rfl)) fun h0 => ?_
  rw [fmt64, o_lt ha key0] at h0
  have h0 := of_decide_eq_false h0
  refine Evp.ob (class_ok ..) ?_
  rintro _ rfl
  simp only [ret_int, ret_bool, ret_flt, ret_slc, ret_str, ret_ptr, ret_agg, ret_tup, ob_some, bb_true, bb_false, List.getElem?_cons_zero, List.getElem?_cons_succ, List.length_cons, List.length_nil, Nat.reduceAdd, Nat.reduceLT]
  refine Evp.bb (fun _ => Evp.ret (Run.ret rfl)) fun hi => ?_
  rw [class_inf ha] at hi
  have hi := of_decide_eq_false hi
  have hab := key_abs ha
  obtain ⟨c1, c2⟩ := cost_mono (l := l) ha (by omega) (by omega) hd hr
  obtain ⟨c3, c4⟩ := cost_mono (l := l) (d1 := minI d1 d2) (d2 := minI d1 d2) ha (by omega) (by omega) ⟨by omega, by omega, by omega⟩ hr
  have ky := key_of (x := costS (minI d1 d2) (minI r1 r2) l) (Nat.le_trans c1 c2)
  refine Evp.ob (cost_ok ..) ?_
  rintro _ rfl
  simp only [ret_int, ret_bool, ret_flt, ret_slc, ret_str, ret_ptr, ret_agg, ret_tup, ob_some, bb_true, bb_false, List.getElem?_cons_zero, List.getElem?_cons_succ, List.length_cons, List.length_nil, Nat.reduceAdd, Nat.reduceLT]
  refine Evp.ob (cost_ok ..) ?_
  rintro _ rfl
  simp only [ret_int, ret_bool, ret_flt, ret_slc, ret_str, ret_ptr, ret_agg, ret_tup, ob_some, bb_true, bb_false, List.getElem?_cons_zero, List.getElem?_cons_succ, List.length_cons, List.length_nil, Nat.reduceAdd, Nat.reduceLT]
  refine Evp.tt (by rw [fmt64, o_le ky (key_of c2)]; exact decide_eq_true (Int.ofNat_le.2 (keyR_le c1 c2))) ?_
  refine Evp.ob (cost_ok ..) ?_
  rintro _ rfl
  simp only [ret_int, ret_bool, ret_flt, ret_slc, ret_str, ret_ptr, ret_agg, ret_tup, ob_some, bb_true, bb_false, List.getElem?_cons_zero, List.getElem?_cons_succ, List.length_cons, List.length_nil, Nat.reduceAdd, Nat.reduceLT]
  refine Evp.tt (by rw [fmt64, o_le ky (key_of c4)]; exact decide_eq_true (Int.ofNat_le.2 (keyR_le c3 c4))) ?_
  refine Evp.ret (Run.ret ?_)
  rw [fmt64, o_ge ky key0, decide_eq_true (by omega)]

def midZ (x : Int) : Int := bringS x 2199023255553 - 1099511627776
def midL (xs : List Int) (n : Nat) : List Int := (xs.take n).map midZ
theorem midZ_le (x : Int) : -1099511627776 ≤ midZ x ∧ midZ x ≤ 1099511627776 := by
  have := bringS_lt (i := x) (n := 2199023255553) (by omega)
  unfold midZ; omega
theorem midL_next {xs : List Int} {n : Nat} (h : n < xs.length) : midL xs (n + 1) = midL xs n ++ [midZ (xs.getD n 0)] := by
  unfold midL
  rw [List.take_succ_eq_append_getElem h, List.map_append, List.getD_eq_getElem?_getD, List.getElem?_eq_getElem h]; rfl
theorem midL_len {xs : List Int} {n : Nat} (h : n ≤ xs.length) : (midL xs n).length = n := by simp [midL]; omega
def BetZ (lo hi : Int) (zs : List Int) : Prop := ∀ z ∈ zs, lo ≤ z ∧ z ≤ hi
section
variable (lo : Nat) (n : Int) (M0 : Mem) (hlo : lo ≤ M0.length)
include hlo
theorem middle_end (zs : List Int) (a b : Int) (A : Option Addr) (c : Nat) (M1 : Mem) (hA : RdF M1 .f64 A (zs.map intF)) (h0 : zs ≠ []) (hl : zs.length ≤ 1000) (hz : BetZ a b zs) (ha : -1099511627776 ≤ a) (hb : b ≤ 1099511627776) :
    ∀ (d i : Nat) (B : Option Addr) (cb : Nat) (M : Mem), (1 + bringS n 1000).toNat - i = d → (i : Int) ≤ 1 + bringS n 1000 → Pre M0 M1 → Pre M1 M → i ≤ cb → Grow M1 M 1 B i ((List.replicate i (zs.getD 0 0)).map fun z => Value.float .f64 (intF z)) →
    Run P T lo F.zoetropelaw06_ScoreMiddle (zoetropelaw06_ScoreMiddle.c8180 n A zs.length c a b (meanS (zs.map intF)) B i cb i M) fun r => r.1 = .bool true := by
  have hbr := bringS_lt (i := n) (n := 1000) (by omega)
  have hpos : 0 < zs.length := List.length_pos_iff.2 h0
  have hz0 := hz _ (getD_mem hpos)
  intro d
  induction d with
  | zero =>
    intro i B cb M hd hi hp0 hp hc hg
    have hi' : (i : Int) = 1 + bringS n 1000 := by omega
    refine Run.cut (Evp.of_eq (fun k => zoetropelaw06_ScoreMiddle.p8180 k ..) ?_)
    refine Evp.ob (bring_ok _ _ _ _ (by omega)) ?_
    rintro _ rfl
    simp only [ret_int, ret_bool, ret_flt, ret_slc, ret_str, ret_ptr, ret_agg, ret_tup, ob_some, bb_true, bb_false, List.getElem?_cons_zero, List.getElem?_cons_succ, List.length_cons, List.length_nil, Nat.reduceAdd, Nat.reduceLT]
    rw [w64 (by omega)]
    refine Evp.dec (fun h => absurd h (by omega)) fun _ => ?_
    obtain ⟨k, k1, k2, k3⟩ := mean_between h0 hl hz ha hb
    rw [nearest_int, nearest_int, fmt64, o_ge k1 (key_int (by omega)), o_le k1 (key_int (by omega))]
    refine Evp.tt (decide_eq_true k2) (Evp.tt (decide_eq_true k3) ?_)
    have hg' : RdF M .f64 B ((List.replicate i (zs.getD 0 0)).map intF) := by
      have := hg.rd
      unfold RdF
      rw [List.length_map, List.length_replicate, List.map_map]
      exact this
    have mo := mean_ok lo B cb _ M hg' (by simp; omega) (by simpa using hc)
    rw [List.length_map, List.length_replicate] at mo
    refine Evp.ob (Q1 := fun r => r = (.float .f64 (meanS ((List.replicate i (zs.getD 0 0)).map intF)), M)) ?_ ?_
    · have mo' := mean_ok M.length B cb _ M hg' (by simp; omega) (by simpa using hc)
      rw [List.length_map, List.length_replicate] at mo'
      exact mo'
    rintro _ rfl
    simp only [ret_int, ret_bool, ret_flt, ret_slc, ret_str, ret_ptr, ret_agg, ret_tup, ob_some, bb_true, bb_false, List.getElem?_cons_zero, List.getElem?_cons_succ, List.length_cons, List.length_nil, Nat.reduceAdd, Nat.reduceLT]
    refine Evp.pos (by omega) ?_
    obtain ⟨a1, rfl, a2, a3⟩ := (hA.pre hp).ld (i := 0) (by simpa using hpos)
    rw [plus_zero] at a3
    refine Evp.some rfl ?_
    rw [if_pos a2, a3]
    simp only [ret_int, ret_bool, ret_flt, ret_slc, ret_str, ret_ptr, ret_agg, ret_tup, ob_some, bb_true, bb_false, List.getElem?_cons_zero, List.getElem?_cons_succ, List.length_cons, List.length_nil, Nat.reduceAdd, Nat.reduceLT]
    refine Evp.ret (Run.ret ?_)
    obtain ⟨q, q1, q2, q3⟩ := mean_between (zs := List.replicate i (zs.getD 0 0)) (a := zs.getD 0 0) (b := zs.getD 0 0) (by intro e; have := congrArg List.length e; simp at this; omega) (by simp; omega) (fun z hz => by rw [List.eq_of_mem_replicate hz]; omega) (by omega) (by omega)
    rw [getD_mapF hpos, o_eq q1 (key_int (by omega)), decide_eq_true (by omega)]
  | succ d ih =>
    intro i B cb M hd hi hp0 hp hc hg
    refine Run.cut (Evp.of_eq (fun k => zoetropelaw06_ScoreMiddle.p8180 k ..) ?_)
    refine Evp.ob (bring_ok _ _ _ _ (by omega)) ?_
    rintro _ rfl
    simp only [ret_int, ret_bool, ret_flt, ret_slc, ret_str, ret_ptr, ret_agg, ret_tup, ob_some, bb_true, bb_false, List.getElem?_cons_zero, List.getElem?_cons_succ, List.length_cons, List.length_nil, Nat.reduceAdd, Nat.reduceLT]
    rw [w64 (by omega)]
    refine Evp.dec (fun _ => ?_) fun h => absurd h (by omega)
    refine Evp.pos (by omega) ?_
    obtain ⟨a1, rfl, a2, a3⟩ := (hA.pre hp).ld (i := 0) (by simpa using hpos)
    rw [plus_zero] at a3
    refine Evp.some rfl ?_
    rw [a3]
    simp only [ret_int, ret_bool, ret_flt, ret_slc, ret_str, ret_ptr, ret_agg, ret_tup, ob_some, bb_true, bb_false, List.getElem?_cons_zero, List.getElem?_cons_succ, List.length_cons, List.length_nil, Nat.reduceAdd, Nat.reduceLT]
    obtain ⟨s, M', h1, h2, h3, h4, _, h5⟩ := hg.app (lo := lo) (bytes := 8) (c := cb) (m := 1) (vs := [.float .f64 ((zs.map intF).getD 0 0)]) hp (Nat.le_trans hlo hp0.len) (by simp) (by omega) (by omega)
    refine Evp.some h1 (Evp.ret ?_)
    have h5 := h5 hc
    rw [getD_mapF hpos] at h2
    have e : ((List.replicate i (zs.getD 0 0)).map fun z => Value.float .f64 (intF z)) ++ [.float .f64 (intF (zs.getD 0 0))] = (List.replicate (i + 1) (zs.getD 0 0)).map fun z => Value.float .f64 (intF z) := by
      rw [List.replicate_succ', List.map_append]; rfl
    rw [h3, e] at h2
    rw [h3] at h5
    rw [h3, w64 (by omega)]
    exact ih (i + 1) s.a s.c M' (by omega) (by omega) hp0 h4 h5 h2
theorem middle_loop (A : Option Addr) (c : Nat) (xs : List Int) (hx : RdI M0 .i64 A xs) (hn : xs.length ≤ 140737488351232) :
    ∀ (d i : Nat) (B : Option Addr) (cb : Nat) (M : Mem) (a b : Int), min xs.length 1000 - i = d → i ≤ xs.length → i ≤ 1000 → Pre M0 M → i ≤ cb → Grow M0 M 1 B i ((midL xs i).map fun z => Value.float .f64 (intF z)) → -1099511627776 ≤ a → b ≤ 1099511627776 → BetZ a b (midL xs i) → a ≤ 1099511627776 → -1099511627776 ≤ b →
    Run P T lo F.zoetropelaw06_ScoreMiddle (zoetropelaw06_ScoreMiddle.c500 A xs.length c n B i cb a b i M) fun r => r.1 = .bool true := by
  intro d
  induction d with
  | zero =>
    intro i B cb M a b hd hi hi2 hp hc hg ha hb hz ha2 hb2
    have ml := midL_len (xs := xs) hi
    have hB : RdF M .f64 B ((midL xs i).map intF) := by
      have := hg.rd
      unfold RdF
      rw [List.length_map, ml, List.map_map]
      exact this
    have mo := mean_ok lo B cb _ M hB (by simp [ml]; omega) (by simpa [ml] using hc)
    rw [List.length_map, ml] at mo
    have fin : Evp (fun k => ob (acall P T k lo F.score_Mean [.slice B i cb] M) fun r17 => ob ((some r17.1).bind (Value.flt? .f64)) fun y18 => bb ((i : Int) == 0) (some (.ret (.bool (FloatKind.f64.format.order y18 y18 != some .eq)) r17.2)) (some (zoetropelaw06_ScoreMiddle.c8180 n B i cb a b y18 none 0 0 0 r17.2))) fun out => Run P T lo F.zoetropelaw06_ScoreMiddle out fun r => r.1 = .bool true := by
      refine Evp.ob mo ?_
      rintro _ rfl
      simp only [ret_int, ret_bool, ret_flt, ret_slc, ret_str, ret_ptr, ret_agg, ret_tup, ob_some, bb_true, bb_false, List.getElem?_cons_zero, List.getElem?_cons_succ, List.length_cons, List.length_nil, Nat.reduceAdd, Nat.reduceLT]
      refine Evp.eqb (fun e0 => ?_) fun e0 => ?_
      · obtain rfl : i = 0 := by omega
        refine Evp.ret (Run.ret ?_)
        have : meanS ((midL xs 0).map intF) = fdiv .f64 0 0 := by
          unfold meanS; rw [if_pos (by simp [midL])]
        rw [this]
        show Value.bool (nanF (fdiv .f64 0 0)) = _
        rw [show nanF (fdiv .f64 0 0) = true by kernel_rfl]
      · have := middle_end lo n M0 hlo (midL xs i) a b B cb M hB (by intro e; have := congrArg List.length e; rw [ml] at this; simp at this; omega) (by omega) hz ha hb _ 0 none 0 M rfl (by have := bringS_lt (i := n) (n := 1000) (by omega); omega) hp (Pre.refl _) (by omega) Grow.nil
        rw [ml] at this
        exact Evp.ret this
    refine Run.cut (Evp.of_eq (fun k => zoetropelaw06_ScoreMiddle.p500 k ..) ?_)
    refine Evp.dec (fun h => ?_) fun _ => fin
    refine Evp.dec (fun h2 => absurd h2 (by omega)) fun _ => fin
  | succ d ih =>
    intro i B cb M a b hd hi hi2 hp hc hg ha hb hz ha2 hb2
    have ml := midL_len (xs := xs) hi
    have hv := midZ_le (xs.getD i 0)
    have hmin : minI a (midZ (xs.getD i 0)) ≤ a ∧ minI a (midZ (xs.getD i 0)) ≤ midZ (xs.getD i 0) ∧ (minI a (midZ (xs.getD i 0)) = a ∨ minI a (midZ (xs.getD i 0)) = midZ (xs.getD i 0)) := by unfold minI; split <;> omega
    have hmax : b ≤ maxI b (midZ (xs.getD i 0)) ∧ midZ (xs.getD i 0) ≤ maxI b (midZ (xs.getD i 0)) ∧ (maxI b (midZ (xs.getD i 0)) = b ∨ maxI b (midZ (xs.getD i 0)) = midZ (xs.getD i 0)) := by unfold maxI; split <;> omega
    refine Run.cut (Evp.of_eq (fun k => zoetropelaw06_ScoreMiddle.p500 k ..) ?_)
    refine Evp.dec (fun _ => ?_) fun h => absurd h (by omega)
    refine Evp.dec (fun _ => ?_) fun h => absurd h (by omega)
    refine Evp.pos (by omega) ?_
    simp only [Int.toNat_natCast]
    refine Evp.ldI (hx.pre hp) (by omega) fun _ _ => ?_
    refine Evp.ob (bring_ok _ _ _ _ (by omega)) ?_
    rintro _ rfl
    simp only [ret_int, ret_bool, ret_flt, ret_slc, ret_str, ret_ptr, ret_agg, ret_tup, ob_some, bb_true, bb_false, List.getElem?_cons_zero, List.getElem?_cons_succ, List.length_cons, List.length_nil, Nat.reduceAdd, Nat.reduceLT]
    have e : IntKind.i64.wrap (bringS (xs.getD i 0) 2199023255553 - 1099511627776) = midZ (xs.getD i 0) := by unfold midZ at hv ⊢; exact w64 (by omega)
    rw [e, nearest_int]
    obtain ⟨s, M', h1, h2, h3, h4, _, h5⟩ := hg.app (lo := lo) (bytes := 8) (c := cb) (m := 1) (vs := [.float .f64 (intF (midZ (xs.getD i 0)))]) hp hlo (by simp) (by omega) (by omega)
    refine Evp.some h1 (Evp.ret ?_)
    have h5 := h5 hc
    have e2 : ((midL xs i).map fun z => Value.float .f64 (intF z)) ++ [.float .f64 (intF (midZ (xs.getD i 0)))] = (midL xs (i + 1)).map fun z => Value.float .f64 (intF z) := by
      rw [midL_next (by omega), List.map_append]; rfl
    rw [h3, e2] at h2
    rw [h3] at h5
    rw [h3, w64 (by omega)]
    refine ih (i + 1) s.a s.c M' _ _ (by omega) (by omega) (by omega) h4 h5 h2 (by omega) (by omega) ?_ (by omega) (by omega)
    intro z hz'
    rw [midL_next (by omega)] at hz'
    rcases List.mem_append.1 hz' with h | h
    · have := hz z h; omega
    · obtain rfl := List.mem_singleton.1 h; omega
end
theorem ScoreMiddle_law (M : Mem) (vs : List Value) (hro : AllRo M) (h : LaysArgs P M [45, 3] vs) : Ac P T M.length F.zoetropelaw06_ScoreMiddle vs M fun r => r.1 = .bool true := by
  obtain ⟨A, c, xs, n, rfl, hc, hn, hx, _⟩ := Arg.ScoreMiddle h
  refine Ac.of (Evp.of_eq (fun k => zoetropelaw06_ScoreMiddle.entry k ..) ?_)
  refine Evp.ob (works_ok _ _ (Nat.le_refl _)) ?_
  rintro _ ⟨M3, rfl, p3⟩
  simp only [ret_int, ret_bool, ret_flt, ret_slc, ret_str, ret_ptr, ret_agg, ret_tup, ob_some, bb_true, bb_false, List.getElem?_cons_zero, List.getElem?_cons_succ, List.length_cons, List.length_nil, Nat.reduceAdd, Nat.reduceLT]
  refine Evp.ff rfl ?_
  exact Evp.ret (middle_loop _ n M3 p3.len A c xs (hx.pre p3) (by omega) _ 0 none 0 M3 _ _ rfl (by omega) (by omega) (Pre.refl _) (by omega) Grow.nil (by omega) (by omega) (by intro z hz; simp [midL] at hz) (by omega) (by omega))
end Go.Zt
