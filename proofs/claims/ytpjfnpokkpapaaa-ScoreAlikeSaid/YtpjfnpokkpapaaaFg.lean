/- Planes are alike just if nothing parts them. -/
import Derived.Test.YtpjfnpokkpapaaaFf
import Derived.Test.YtpjfnpokkpapaaaAb31
set_option linter.unusedVariables false
set_option linter.unusedSimpArgs false
set_option maxRecDepth 10000
set_option exponentiation.threshold 5000
namespace Go.Zt
open Ieee
theorem sqd_comm (x y : Int) : sqd x y = sqd y x := by
  unfold sqd
  rw [← Int.neg_sub y x, Int.neg_mul_neg]
theorem apartS_comm (xs ys : List Int) : ∀ n, apartS xs ys n = apartS ys xs n
  | 0 => rfl
  | n + 1 => by simp only [apartS]; rw [apartS_comm xs ys n, sqd_comm]
theorem sqd_zero {x y : Int} : sqd x y = 0 ↔ x = y := by
  unfold sqd
  rw [Int.mul_eq_zero]
  omega
theorem apartS_zero {xs ys : List Int} (bx : Bytes xs) (by_ : Bytes ys) : ∀ n, apartS xs ys n = 0 ↔ ∀ j, j < n → xs.getD j 0 = ys.getD j 0
  | 0 => ⟨fun _ j hj => by omega, fun _ => rfl⟩
  | n + 1 => by
    have ih := apartS_zero bx by_ n
    have h1 := (apartS_le bx by_ n).1
    have h2 := (sqd_le (bx.get n) (by_.get n)).1
    simp only [apartS]
    constructor
    · intro h j hj
      have e1 : apartS xs ys n = 0 := by omega
      have e2 : sqd (xs.getD n 0) (ys.getD n 0) = 0 := by omega
      by_cases hjn : j = n
      · rw [hjn]; exact sqd_zero.1 e2
      · exact ih.1 e1 j (by omega)
    · intro h
      rw [ih.2 fun j hj => h j (by omega), sqd_zero.2 (h n (by omega))]; rfl
theorem apartS_less {xs ys zs : List Int} (bx : Bytes xs) (by_ : Bytes ys) : ∀ n, (∀ j, j < n → zs.getD j 0 = xs.getD j 0 ∨ zs.getD j 0 = ys.getD j 0) → apartS zs ys n ≤ apartS xs ys n
  | 0, _ => Int.le_refl _
  | n + 1, h => by
    have ih := apartS_less bx by_ n fun j hj => h j (by omega)
    have h2 := (sqd_le (bx.get n) (by_.get n)).1
    simp only [apartS]
    rcases h n (by omega) with e | e
    · rw [e]; omega
    · rw [e, sqd_zero.2 rfl]; omega
/-- Two planes that may be compared. -/
def LikeP (w h w' h' : Int) (n n' : Int) : Prop := checkS w h n = 0 ∧ checkS w' h' n' = 0 ∧ w = w' ∧ h = h'
instance (w h w' h' : Int) (n n' : Int) : Decidable (LikeP w h w' h' n n') := inferInstanceAs (Decidable (_ ∧ _))
theorem like_eq {w h w' h' : Int} {xs ys : List Int} (hl : LikeP w h w' h' xs.length ys.length) (bx : Bytes xs) (by_ : Bytes ys) :
    xs.length = ys.length ∧ 1 ≤ xs.length ∧ xs.length ≤ 262144 ∧ ratioS w h w' h' xs ys = ratioN (65025 * xs.length) (apartS xs ys xs.length).toNat ∧ 0 ≤ apartS xs ys xs.length ∧ apartS xs ys xs.length ≤ 65025 * xs.length := by
  obtain ⟨k1, k2, rfl, rfl⟩ := hl
  have g1 := checkS_len k1
  have g2 := checkS_len k2
  have ha := apartS_le bx by_ xs.length
  refine ⟨by omega, by omega, by omega, ?_, ha⟩
  unfold ratioS
  rw [if_pos ⟨k1, k2, rfl, rfl⟩, ratio_eq (by omega) (by omega)]
  congr 1
theorem key_one : fkey 4607182418800017408 = some ((keyR (rungOf 1 0) : Nat) : Int) := by
  rw [one_rung]; exact key_of (by unfold infR; omega)
section
variable (lo : Nat) (w h : Int) (L B : Option Addr) (nl cl cb : Nat) (ms : List Bool) (xs ys : List Int) (M0 : Mem) (a : Addr) (c : Nat)
variable (hlo : lo ≤ M0.length) (hm : RdB M0 L ms) (hy : RdI M0 .u8 B ys) (bx : Bytes xs) (by_ : Bytes ys) (hl : LikeP w h w h xs.length ys.length)
include hlo hm hy bx by_ hl in
theorem alike_loop : ∀ (d i : Nat) (zs : List Int) (M : Mem), xs.length - i = d → i ≤ xs.length → zs.length = xs.length → (∀ j, j < xs.length → zs.getD j 0 = xs.getD j 0 ∨ zs.getD j 0 = ys.getD j 0) → Pre M0 M → Buf M0 M a (zs.map (Value.int .u8)) →
    Run P T lo F.zoetropelaw06_ScoreAlike (zoetropelaw06_ScoreAlike.c8180 L ms.length cl (ratioS w h w h xs ys) i w h B ys.length cb w h (some a) xs.length c M) fun r => r.1 = .bool true := by
  obtain ⟨l1, l2, l3, l4, l5, l6⟩ := like_eq hl bx by_
  intro d
  have fin : ∀ (i : Nat) (zs : List Int) (M : Mem), zs.length = xs.length → (∀ j, j < xs.length → zs.getD j 0 = xs.getD j 0 ∨ zs.getD j 0 = ys.getD j 0) → Pre M0 M → Buf M0 M a (zs.map (Value.int .u8)) →
      Evp (fun k => ob (acall P T k lo F.score_Ratio [.agg ⟨[.int .i64 w, .int .i64 h, .slice (some a) xs.length c]⟩, .agg ⟨[.int .i64 w, .int .i64 h, .slice B ys.length cb]⟩] M) fun r43 => ob ((some r43.1).bind (Value.flt? .f64)) fun y44 =>
        some (.ret (.bool (FloatKind.f64.format.order y44 (ratioS w h w h xs ys) == some .gt || FloatKind.f64.format.order y44 (ratioS w h w h xs ys) == some .eq)) r43.2)) fun out => Run P T lo F.zoetropelaw06_ScoreAlike out fun r => r.1 = .bool true := fun i zs M hz hj hp hb => by
    have bz : Bytes zs := fun v hv => by
      obtain ⟨j, hj', rfl⟩ := List.mem_iff_getElem.1 hv
      have := hj j (by omega)
      rw [List.getD_eq_getElem?_getD, List.getElem?_eq_getElem hj', Option.getD_some] at this
      have b1 := bx.get j
      have b2 := by_.get j
      omega
    have rr := ratio_ok lo w h w h (some a) B c cb zs ys M hb.rdI (hy.pre hp) bz by_
    rw [hz] at rr
    refine Evp.ob rr ?_
    rintro _ rfl
    simp only [ret_int, ret_bool, ret_flt, ret_slc, ret_str, ret_ptr, ret_agg, ret_tup, ob_some, bb_true, bb_false, List.getElem?_cons_zero, List.getElem?_cons_succ, List.length_cons, List.length_nil, Nat.reduceAdd, Nat.reduceLT]
    have hl' : LikeP w h w h zs.length ys.length := by rw [hz]; exact hl
    obtain ⟨_, _, _, e4, e5, e6⟩ := like_eq hl' bz by_
    rw [hz] at e4 e5 e6
    have less := apartS_less (xs := xs) (ys := ys) (zs := zs) bx by_ xs.length hj
    rw [e4, l4, fmt64, o_ge (key_of (ratioN_le _ _)) (key_of (ratioN_le _ _))]
    refine Evp.ret (Run.ret ?_)
    have := keyR_le (ratioN_mono (S := 65025 * xs.length) (A := (apartS zs ys xs.length).toNat) (B := (apartS xs ys xs.length).toNat) (by omega) (by omega) (by omega) (by omega)) (ratioN_le _ _)
    rw [decide_eq_true (by omega)]
  induction d with
  | zero =>
    intro i zs M hd hi hz hj hp hb
    refine Run.cut (Evp.of_eq (fun k => zoetropelaw06_ScoreAlike.p8180 k ..) ?_)
    refine Evp.dec (fun h => absurd h (by omega)) fun _ => fin i zs M hz hj hp hb
  | succ d ih =>
    intro i zs M hd hi hz hj hp hb
    have next : ∀ (zs : List Int) (M : Mem), zs.length = xs.length → (∀ j, j < xs.length → zs.getD j 0 = xs.getD j 0 ∨ zs.getD j 0 = ys.getD j 0) → Pre M0 M → Buf M0 M a (zs.map (Value.int .u8)) →
        Run P T lo F.zoetropelaw06_ScoreAlike (zoetropelaw06_ScoreAlike.c32723 L ms.length cl (ratioS w h w h xs ys) i w h B ys.length cb w h (some a) xs.length c M) fun r => r.1 = .bool true := fun zs M hz hj hp hb => by
      refine Run.cut (Evp.of_eq (fun k => zoetropelaw06_ScoreAlike.p32723 k ..) ?_)
      rw [w64 (by omega)]
      exact Evp.ret (ih (i + 1) zs M (by omega) (by omega) hz hj hp hb)
    refine Run.cut (Evp.of_eq (fun k => zoetropelaw06_ScoreAlike.p8180 k ..) ?_)
    refine Evp.dec (fun _ => ?_) fun h => absurd h (by omega)
    refine Evp.dec (fun hlt => ?_) fun _ => fin i zs M hz hj hp hb
    refine Evp.dec (fun _ => ?_) fun h => absurd h (by omega)
    refine Evp.pos (by omega) ?_
    simp only [Int.toNat_natCast]
    refine Evp.ldB (hm.pre hp) (by omega) fun _ _ => ?_
    refine Evp.bb (fun _ => ?_) fun _ => Evp.ret (next zs M hz hj hp hb)
    refine Evp.pos (by omega) (Evp.ldI (hy.pre hp) (by omega) fun _ _ => ?_)
    refine Evp.pos (by omega) (Evp.some rfl ?_)
    obtain ⟨M', h1, h2, h3, h4, h5⟩ := hb.st (lo := lo) (i := i) (vs := [.int .u8 (ys.getD i 0)]) hp hlo (by simp; omega)
    refine Evp.some h1 ?_
    rw [setL_one, set_map] at h2
    refine Evp.ret (next _ M' (by simpa using hz) (fun j hj' => ?_) h3 h2)
    rw [getD_set (by omega)]
    by_cases hji : j = i
    · rw [if_pos hji, hji]; exact .inr rfl
    · rw [if_neg hji]; exact hj j hj'
end
theorem ScoreAlike_law (M : Mem) (vs : List Value) (hro : AllRo M) (hv : LaysArgs P M [24, 24, 49] vs) : Ac P T M.length F.zoetropelaw06_ScoreAlike vs M fun r => r.1 = .bool true := by
  obtain ⟨w, h, A, c, xs, w', h', A', c', ys, L, cl, ms, rfl, _, _, hc, hn, hx, wx, _, _, hc', hn', hy, wy, _, _, hm⟩ := Arg.ScoreAlike hv
  have bx : Bytes xs := fun x hx => wf_u8 (wx x hx)
  have by_ : Bytes ys := fun x hx => wf_u8 (wy x hx)
  refine Ac.of (Evp.of_eq (fun k => zoetropelaw06_ScoreAlike.entry k ..) ?_)
  refine Evp.ob (works_ok _ _ (Nat.le_refl _)) ?_
  rintro _ ⟨M1, rfl, p1⟩
  simp only [ret_int, ret_bool, ret_flt, ret_slc, ret_str, ret_ptr, ret_agg, ret_tup, ob_some, bb_true, bb_false, List.getElem?_cons_zero, List.getElem?_cons_succ, List.length_cons, List.length_nil, Nat.reduceAdd, Nat.reduceLT]
  refine Evp.ff rfl ?_
  have hx1 := hx.pre p1
  have hy1 := hy.pre p1
  refine Evp.ob (ratio_ok _ w h w' h' A A' c c' xs ys M1 hx1 hy1 bx by_) ?_
  rintro _ rfl
  simp only [ret_int, ret_bool, ret_flt, ret_slc, ret_str, ret_ptr, ret_agg, ret_tup, ob_some, bb_true, bb_false, List.getElem?_cons_zero, List.getElem?_cons_succ, List.length_cons, List.length_nil, Nat.reduceAdd, Nat.reduceLT]
  refine Evp.ob (apart_ok _ w h w' h' A A' c c' xs ys M1 hx1 hy1 bx by_) ?_
  rintro _ rfl
  by_cases hl : LikeP w h w' h' xs.length ys.length
  · have hl' := hl
    unfold LikeP at hl'
    rw [if_pos hl']
    simp only [ret_int, ret_bool, ret_flt, ret_slc, ret_str, ret_ptr, ret_agg, ret_tup, ob_some, bb_true, bb_false, List.getElem?_cons_zero, List.getElem?_cons_succ, List.length_cons, List.length_nil, Nat.reduceAdd, Nat.reduceLT]
    refine Evp.neb (fun h => absurd rfl h) fun _ => ?_
    obtain ⟨k1, k2, rfl, rfl⟩ := hl'
    obtain ⟨l1, l2, l3, l4, l5, l6⟩ := like_eq hl bx by_
    refine Evp.ob (ratio_ok _ w h w h A' A c' c ys xs M1 hy1 hx1 by_ bx) ?_
    rintro _ rfl
    simp only [ret_int, ret_bool, ret_flt, ret_slc, ret_str, ret_ptr, ret_agg, ret_tup, ob_some, bb_true, bb_false, List.getElem?_cons_zero, List.getElem?_cons_succ, List.length_cons, List.length_nil, Nat.reduceAdd, Nat.reduceLT]
    have eb : ratioS w h w h ys xs = ratioS w h w h xs ys := by
      obtain ⟨_, _, _, e4, _, _⟩ := like_eq (xs := ys) (ys := xs) ⟨k2, k1, rfl, rfl⟩ by_ bx
      rw [e4, l4, ← l1, apartS_comm]
    have kr := key_of (x := ratioS w h w h xs ys) (by rw [l4]; exact ratioN_le _ _)
    rw [eb, fmt64]
    refine Evp.ff (by rw [bne, o_eq kr kr, decide_eq_true rfl]; rfl) ?_
    have ho := keyR_le (ratioN_one (S := 65025 * xs.length) (A := (apartS xs ys xs.length).toNat) (by omega)) (ratioN_le _ _)
    refine Evp.ff (by rw [o_lt kr key_one, decide_eq_false (by rw [l4]; omega)]) ?_
    refine Evp.ob (class_ok ..) ?_
    rintro _ rfl
    simp only [ret_int, ret_bool, ret_flt, ret_slc, ret_str, ret_ptr, ret_agg, ret_tup, ob_some, bb_true, bb_false, List.getElem?_cons_zero, List.getElem?_cons_succ, List.length_cons, List.length_nil, Nat.reduceAdd, Nat.reduceLT]
    refine Evp.ob (same_ok _ w h w h A A' c c' xs ys M1 hx1 hy1 (by omega)) ?_
    rintro _ rfl
    simp only [ret_int, ret_bool, ret_flt, ret_slc, ret_str, ret_ptr, ret_agg, ret_tup, ob_some, bb_true, bb_false, List.getElem?_cons_zero, List.getElem?_cons_succ, List.length_cons, List.length_nil, Nat.reduceAdd, Nat.reduceLT]
    refine Evp.ff ?_ ?_
    · rw [class_inf kr]
      have e : ((keyR (ratioS w h w h xs ys) : Nat) : Int) = bigK ↔ (w = w ∧ h = h ∧ xs = ys) := by
        rw [l4]
        have r1 := ratioN_inf (S := 65025 * xs.length) (A := (apartS xs ys xs.length).toNat) (by omega)
        have r2 := apartS_zero bx by_ xs.length
        constructor
        · intro e
          have e2 := r1.1 (Int.ofNat.inj e)
          exact ⟨rfl, rfl, ext_getD l1 (r2.1 (by omega))⟩
        · rintro ⟨_, _, e⟩
          have e3 : apartS xs ys xs.length = 0 := r2.2 fun j _ => by rw [e]
          rw [r1.2 (by rw [e3]; rfl)]
      by_cases hs : xs = ys
      · rw [decide_eq_true (e.2 ⟨rfl, rfl, hs⟩)]; simp [hs]
      · rw [decide_eq_false (fun q => hs (e.1 q).2.2)]; simp [hs]
    refine Evp.ob (copyBytes_ok M1.length A c xs M1 hx1 (by omega) (Nat.le_refl _)) ?_
    rintro _ ⟨S, cs, M2, rfl, p2, _, k⟩
    simp only [ret_int, ret_bool, ret_flt, ret_slc, ret_str, ret_ptr, ret_agg, ret_tup, ob_some, bb_true, bb_false, List.getElem?_cons_zero, List.getElem?_cons_succ, List.length_cons, List.length_nil, Nat.reduceAdd, Nat.reduceLT]
    obtain ⟨a, rfl, hb⟩ := k.buf (by omega)
    exact Evp.ret (alike_loop _ w h L A' cl c' ms xs ys M1 a cs p1.len (hm.pre p1) hy1 bx by_ hl _ 0 xs M2 rfl (by omega) rfl (fun j _ => .inl rfl) p2 hb)
  · have hl' := hl
    unfold LikeP at hl'
    rw [if_neg hl']
    simp only [ret_int, ret_bool, ret_flt, ret_slc, ret_str, ret_ptr, ret_agg, ret_tup, ob_some, bb_true, bb_false, List.getElem?_cons_zero, List.getElem?_cons_succ, List.length_cons, List.length_nil, Nat.reduceAdd, Nat.reduceLT]
    refine Evp.neb (fun _ => ?_) fun h => absurd h (by omega)
    have er : ratioS w h w' h' xs ys = fdiv .f64 0 0 := by unfold ratioS; rw [if_neg hl']
    have en : nanF (fdiv .f64 0 0) = true := by kernel_rfl
    rw [er]
    refine Evp.tt en ?_
    refine Evp.ob (class_ok ..) ?_
    rintro _ rfl
    simp only [ret_int, ret_bool, ret_flt, ret_slc, ret_str, ret_ptr, ret_agg, ret_tup, ob_some, bb_true, bb_false, List.getElem?_cons_zero, List.getElem?_cons_succ, List.length_cons, List.length_nil, Nat.reduceAdd, Nat.reduceLT]
    refine Evp.ret (Run.ret ?_)
    rw [class_none en]
    simp
end Go.Zt
