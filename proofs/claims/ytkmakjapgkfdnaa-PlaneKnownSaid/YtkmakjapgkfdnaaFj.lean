/- Planes are 0 apart just if they are the same. -/
import Derived.Test.YtkmakjapgkfdnaaFi
set_option linter.unusedVariables false
set_option linter.unusedSimpArgs false
set_option maxRecDepth 100000
namespace Go.Zt
theorem solid_ok (lo : Nat) (w h : Int) (A : Option Addr) (n c : Nat) (M : Mem) (hk : checkS w h n = 0) : Ac P T lo F.zoetropelaw05_solid [.agg ⟨[.int .i64 w, .int .i64 h, .slice A n c]⟩] M fun r => r = (.bool true, M) := by
  have hs := checkS_len' hk
  have har := area (w := w) (h := h) (by omega)
  refine Ac.of (Evp.of_eq (fun k => zoetropelaw05_solid.entry k ..) ?_)
  refine Evp.dec (fun _ => ?_) fun h => absurd h (by omega)
  refine Evp.dec (fun _ => ?_) fun h => absurd h (by omega)
  refine Evp.dec (fun _ => ?_) fun h => absurd h (by omega)
  refine Evp.dec (fun _ => ?_) fun h => absurd h (by omega)
  rw [w64 (x := w * h) (by omega)]
  refine Evp.ret (Run.ret ?_)
  rw [hs.2.2.2.2]; simp
theorem lay_one {w h : Nat} {xs : List Int} (hn : xs.length = w * h) {i : Nat} (hi : i < xs.length) (v : Int) : layS w xs [v] (i % w) (i / w) 1 1 = xs.set i v := by
  apply ext_getD (by rw [layS_len, List.length_set])
  intro q hq
  rw [layS_len] at hq
  obtain ⟨i0, i1, i2, i3⟩ := dm_lt (W := w) (h := h) (q := i) (by rw [Nat.mul_comm]; omega)
  obtain ⟨q0, q1, q2, q3⟩ := dm_lt (W := w) (h := h) (q := q) (by rw [Nat.mul_comm]; omega)
  rw [getD_set hi]
  unfold layS
  rw [getD_map_range hq]
  by_cases e : q = i
  · subst e
    rw [if_pos ⟨Nat.le_refl _, by omega, Nat.le_refl _, by omega⟩, if_pos rfl, Nat.sub_self, Nat.sub_self]; rfl
  · rw [if_neg e, if_neg]
    intro ⟨e1, e2, e3, e4⟩
    have d1 : q / w = i / w := by generalize q / w = u at *; generalize i / w = u' at *; omega
    have d2 : q % w = i % w := by generalize q % w = u at *; generalize i % w = u' at *; omega
    exact e (by rw [q3, d1, d2]; exact i3.symm)
theorem sqd_comm (x y : Int) : sqd x y = sqd y x := by
  unfold sqd
  rw [show y - x = -(x - y) by omega, Int.neg_mul_neg]
theorem sqd_self (x : Int) : sqd x x = 0 := by unfold sqd; simp
theorem sqd_zero {x y : Int} (h : sqd x y = 0) : x = y := by
  unfold sqd at h
  rcases Int.mul_eq_zero.1 h with h | h <;> omega
theorem apart_comm (xs ys : List Int) (n : Nat) : apartS xs ys n = apartS ys xs n := by
  induction n with
  | zero => rfl
  | succ n ih => simp only [apartS]; rw [ih, sqd_comm]
theorem apart_self (xs : List Int) (n : Nat) : apartS xs xs n = 0 := by
  induction n with
  | zero => rfl
  | succ n ih => simp only [apartS]; rw [ih, sqd_self]; rfl
theorem apart_set (xs : List Int) (v : Int) {i : Nat} (hi : i < xs.length) : ∀ n, n ≤ xs.length → apartS xs (xs.set i v) n = if i < n then sqd (xs.getD i 0) v else 0
  | 0, _ => by rw [if_neg (by omega)]; rfl
  | n + 1, hn => by
    simp only [apartS]
    rw [apart_set xs v hi n (by omega), getD_set hi]
    by_cases e : n = i
    · subst e
      rw [if_neg (by omega), if_pos rfl, if_pos (by omega)]; omega
    · rw [if_neg e, sqd_self]
      by_cases h : i < n
      · rw [if_pos h, if_pos (by omega)]; omega
      · rw [if_neg h, if_neg (by omega)]; rfl
theorem PlaneApart_law (M : Mem) (vs : List Value) (hro : AllRo M) (hv : LaysArgs P M [24, 3, 5] vs) : Ac P T M.length F.zoetropelaw05_PlaneApart vs M fun r => r.1 = .bool true := by
  obtain ⟨w, h, A, c, xs, at_, v, rfl, _, _, hc, hn, hx, wx, _, wv⟩ := Arg.PlaneApart hv
  have bx : Bytes xs := fun x hx => wf_u8 (wx x hx)
  have hvb := wf_u8 wv
  refine Ac.of (Evp.of_eq (fun k => zoetropelaw05_PlaneApart.entry k ..) ?_)
  refine Evp.ob (works_ok _ _ (Nat.le_refl _)) ?_
  rintro _ ⟨M1, rfl, p1⟩
  simp only [ret_int, ret_bool, ret_flt, ret_slc, ret_str, ret_ptr, ret_agg, ret_tup, ob_some, bb_true, bb_false, List.getElem?_cons_zero, List.getElem?_cons_succ, List.length_cons, List.length_nil, Nat.reduceAdd, Nat.reduceLT]
  refine Evp.ff rfl ?_
  refine Evp.ob (check_ok ..) ?_
  rintro _ rfl
  simp only [ret_int, ret_bool, ret_flt, ret_slc, ret_str, ret_ptr, ret_agg, ret_tup, ob_some, bb_true, bb_false, List.getElem?_cons_zero, List.getElem?_cons_succ, List.length_cons, List.length_nil, Nat.reduceAdd, Nat.reduceLT]
  have hx1 := hx.pre p1
  refine Evp.neb (fun hk => ?_) fun hk => ?_
  · refine Evp.ob (apart_ok _ _ _ _ _ _ _ _ _ _ _ _ hx1 hx1 bx bx) ?_
    rintro _ rfl
    rw [if_neg (fun e => hk e.1)]
    simp only [ret_int, ret_bool, ret_flt, ret_slc, ret_str, ret_ptr, ret_agg, ret_tup, ob_some, bb_true, bb_false, List.getElem?_cons_zero, List.getElem?_cons_succ, List.length_cons, List.length_nil, Nat.reduceAdd, Nat.reduceLT]
    exact Evp.ret (Run.ret rfl)
  have hs := checkS_len' hk
  have har := area (w := w) (h := h) (by omega)
  refine Evp.ob (solid_ok _ _ _ _ _ _ _ hk) ?_
  rintro _ rfl
  simp only [ret_int, ret_bool, ret_flt, ret_slc, ret_str, ret_ptr, ret_agg, ret_tup, ob_some, bb_true, bb_false, List.getElem?_cons_zero, List.getElem?_cons_succ, List.length_cons, List.length_nil, Nat.reduceAdd, Nat.reduceLT]
  refine Evp.ff rfl ?_
  refine Evp.ob (bring_ok _ _ _ _ (by omega)) ?_
  rintro _ rfl
  simp only [ret_int, ret_bool, ret_flt, ret_slc, ret_str, ret_ptr, ret_agg, ret_tup, ob_some, bb_true, bb_false, List.getElem?_cons_zero, List.getElem?_cons_succ, List.length_cons, List.length_nil, Nat.reduceAdd, Nat.reduceLT]
  have hb := bringS_lt (i := at_) (n := (xs.length : Int)) (by omega)
  generalize bringS at_ (xs.length : Int) = ii at *
  obtain ⟨i, rfl⟩ := Int.eq_ofNat_of_zero_le hb.1
  obtain ⟨w, rfl⟩ := Int.eq_ofNat_of_zero_le (a := w) (by omega)
  obtain ⟨h, rfl⟩ := Int.eq_ofNat_of_zero_le (a := h) (by omega)
  have hnn : xs.length = w * h := by have := hs.2.2.2.2; rw [← Int.natCast_mul] at this; omega
  have hi : i < xs.length := by omega
  obtain ⟨i0, i1, i2, i3⟩ := dm_lt (W := w) (h := h) (q := i) (by rw [Nat.mul_comm]; omega)
  have e1 : Int.tdiv (i : Int) ((w : Nat) : Int) = ((i / w : Nat) : Int) := rfl
  have e2 : Int.tmod (i : Int) ((w : Nat) : Int) = ((i % w : Nat) : Int) := rfl
  have hle : i / w ≤ i := Nat.div_le_self _ _
  refine Evp.neg (by omega) (Evp.neg (by omega) ?_)
  rw [e1, e2]
  have hdw : IntKind.i64.wrap ((i / w : Nat) : Int) = ((i / w : Nat) : Int) := by
    generalize i / w = u at *; exact w64 (by omega)
  rw [hdw]
  have p2 := Pre.app M1 [⟨.fx, ([v] : List Int).map (Value.int .u8)⟩]
  have q2 := RdI.lit (M := M1) (k := .u8) [v]
  refine Evp.ob (play_ok _ w h A c xs ((i % w : Nat) : Int) ((i / w : Nat) : Int) 1 1 _ 1 [v] _ (hx1.pre p2) q2 (Nat.le_refl _) p2.len) ?_
  rintro ⟨r, M3⟩ ⟨p3, h3⟩
  have hW : WithinP w h ((i % w : Nat) : Int) ((i / w : Nat) : Int) 1 1 := by
    generalize i / w = u at *; generalize i % w = u' at *
    unfold WithinP; omega
  rw [if_pos ⟨hk, hW, rfl⟩] at h3
  obtain ⟨a, cc, rfl, _, hbuf⟩ := h3
  simp only [Int.toNat_natCast] at hbuf
  rw [show (1 : Int).toNat = 1 from rfl, lay_one hnn hi v] at hbuf
  simp only [ret_int, ret_bool, ret_flt, ret_slc, ret_str, ret_ptr, ret_agg, ret_tup, ob_some, bb_true, bb_false, List.getElem?_cons_zero, List.getElem?_cons_succ, List.length_cons, List.length_nil, Nat.reduceAdd, Nat.reduceLT]
  have by_ : Bytes (xs.set i v) := fun z hz => by
    rcases List.mem_or_eq_of_mem_set hz with hz | rfl
    · exact bx z hz
    · exact hvb
  have hls : (xs.set i v).length = xs.length := List.length_set
  have hx3 := hx1.pre (p2.trans p3)
  have f1 := apart_ok M.length w h w h A (some a) c cc xs (xs.set i v) M3 hx3 hbuf.rdI bx by_
  rw [hls, if_pos ⟨hk, hk, rfl, rfl⟩, apart_set xs v hi _ (Nat.le_refl _), if_pos hi] at f1
  refine Evp.ob f1 ?_
  rintro _ rfl
  simp only [ret_int, ret_bool, ret_flt, ret_slc, ret_str, ret_ptr, ret_agg, ret_tup, ob_some, bb_true, bb_false, List.getElem?_cons_zero, List.getElem?_cons_succ, List.length_cons, List.length_nil, Nat.reduceAdd, Nat.reduceLT]
  have f2 := apart_ok M.length w h w h (some a) A cc c (xs.set i v) xs M3 hbuf.rdI hx3 by_ bx
  rw [hls, if_pos ⟨hk, hk, rfl, rfl⟩, apart_comm, apart_set xs v hi _ (Nat.le_refl _), if_pos hi] at f2
  refine Evp.ob f2 ?_
  rintro _ rfl
  simp only [ret_int, ret_bool, ret_flt, ret_slc, ret_str, ret_ptr, ret_agg, ret_tup, ob_some, bb_true, bb_false, List.getElem?_cons_zero, List.getElem?_cons_succ, List.length_cons, List.length_nil, Nat.reduceAdd, Nat.reduceLT]
  refine Evp.ob (apart_ok _ _ _ _ _ _ _ _ _ _ _ _ hx3 hx3 bx bx) ?_
  rintro _ rfl
  rw [if_pos ⟨hk, hk, rfl, rfl⟩, apart_self]
  simp only [ret_int, ret_bool, ret_flt, ret_slc, ret_str, ret_ptr, ret_agg, ret_tup, ob_some, bb_true, bb_false, List.getElem?_cons_zero, List.getElem?_cons_succ, List.length_cons, List.length_nil, Nat.reduceAdd, Nat.reduceLT]
  refine Evp.pos (by omega) ?_
  simp only [Int.toNat_natCast]
  refine Evp.ldI hx3 hi fun _ _ => ?_
  refine Evp.tt rfl (Evp.tt rfl (Evp.tt rfl (Evp.tt rfl (Evp.tt rfl ?_))))
  refine Evp.eqb (fun _ => ?_) fun h => absurd rfl h
  rw [sq_wrap hvb (bx.get i)]
  refine Evp.eqb (fun _ => ?_) fun h => absurd (sqd_comm _ _) h
  have f4 := same_ok M.length w h w h A (some a) c cc xs (xs.set i v) M3 hx3 hbuf.rdI (by omega)
  rw [hls] at f4
  refine Evp.ob f4 ?_
  rintro _ rfl
  simp only [ret_int, ret_bool, ret_flt, ret_slc, ret_str, ret_ptr, ret_agg, ret_tup, ob_some, bb_true, bb_false, List.getElem?_cons_zero, List.getElem?_cons_succ, List.length_cons, List.length_nil, Nat.reduceAdd, Nat.reduceLT]
  refine Evp.ret (Run.ret ?_)
  by_cases hq : xs.getD i 0 = v
  · have : xs = xs.set i v := by
      apply ext_getD hls.symm
      intro q hq'
      rw [getD_set hi]
      split
      · rename_i e; rw [e]; exact hq
      · rfl
    rw [hq, sqd_self, decide_eq_true ⟨trivial, trivial, this⟩]; rfl
  · have h1 : ¬ (sqd (xs.getD i 0) v = 0) := fun e => hq (sqd_zero e)
    have h2 : ¬ (xs = xs.set i v) := fun e => hq (by
      have h3 := congrArg (fun l => l.getD i 0) e
      rw [getD_set hi, if_pos rfl] at h3
      exact h3)
    rw [decide_eq_false (fun e => h2 e.2.2), show (sqd (xs.getD i 0) v == 0) = false by simpa using h1]; rfl
end Go.Zt
