/- What the document says of edges that stay; flat sides. -/
import Derived.Test.YtibbmknipkifeaaFb
set_option linter.unusedVariables false
set_option linter.unusedSimpArgs false
set_option maxRecDepth 100000
namespace Go.Zt
theorem small_at {xs : List Int} {l : Int} {n : Nat} (h : smallE xs l n) (k : Nat) (h1 : 1 ≤ k) (h2 : k ≤ n) : farE xs (-(k + 1)) (-k) ≤ l ∧ farE xs k (k - 1) ≤ l := by
  obtain ⟨j, rfl⟩ : ∃ j, k = j + 1 := ⟨k - 1, by omega⟩
  have := (smallE_mono (k := j + 1) h2 h).2
  rw [show -(((j + 1 : Nat) : Int) + 1) = -2 - j by omega, show -((j + 1 : Nat) : Int) = -1 - j by omega, show ((j + 1 : Nat) : Int) - 1 = j by omega, show ((j + 1 : Nat) : Int) = (j : Int) + 1 by omega]
  exact this
theorem limitS_le {level sharp : Int} (hl : 0 ≤ level ∧ level ≤ 63) (hs : 0 ≤ sharp ∧ sharp ≤ 7) : 1 ≤ limitS level sharp ∧ limitS level sharp ≤ 63 := by
  unfold limitS maxI minI
  split <;> split <;> (try split) <;> (try split) <;> omega
section
variable (lo : Nat) (A : Option Addr) (c : Nat) (xs : List Int) (M : Mem) (level sharp : Int)
theorem rfiltered_ok (hx : RdI M .u8 A xs) (bx : Bytes xs) (hlen : xs.length = 4 ∨ xs.length = 6 ∨ xs.length = 8 ∨ xs.length = 14) (hl : 0 ≤ level ∧ level ≤ 63) (hs : 0 ≤ sharp ∧ sharp ≤ 7) :
    Ac P T lo F.zoetroperef22_filtered [.slice A xs.length c, .int .i64 (xs.length : Int), .int .i64 level, .int .i64 sharp] M fun r => r = (.bool (decide (level ≠ 0 ∧ smoothE xs (limitS level sharp) (2 * (level + 2) + limitS level sharp))), M) := by
  have hn : xs.length ≤ 1000 := by omega
  have f1 := farE_le bx (-1) 0
  have f2 := farE_le bx (-2) 1
  have hlim := limitS_le hl hs
  have no : ¬ (level ≠ 0 ∧ smoothE xs (limitS level sharp) (2 * (level + 2) + limitS level sharp)) → Run P T lo F.zoetroperef22_filtered (.ret (.bool false) M) fun r => r = (.bool (decide (level ≠ 0 ∧ smoothE xs (limitS level sharp) (2 * (level + 2) + limitS level sharp))), M) := fun h => Run.ret (by rw [decide_eq_false h])
  have sm : smoothE xs (limitS level sharp) (2 * (level + 2) + limitS level sharp) → ∀ k : Nat, 1 ≤ k ∧ k ≤ min (xs.length / 2) 4 - 1 → farE xs (-(k + 1)) (-k) ≤ limitS level sharp ∧ farE xs k (k - 1) ≤ limitS level sharp := fun h k hk => small_at h.1 k hk.1 hk.2
  refine Ac.of (Evp.of_eq (fun k => zoetroperef22_filtered.entry k ..) ?_)
  refine Evp.eqb (fun h => Evp.ret (no fun e => e.1 h)) fun h0 => ?_
  refine Evp.ob (rlimit_ok _ _ _ _ hl hs) ?_
  rintro _ rfl
  simp only [ret_int, ret_bool, ret_flt, ret_slc, ret_str, ret_ptr, ret_agg, ret_tup, ob_some, bb_true, bb_false, List.getElem?_cons_zero, List.getElem?_cons_succ, List.length_cons, List.length_nil, Nat.reduceAdd, Nat.reduceLT]
  rcases hlen with hlen | hlen | hlen | hlen
  · have hk : min (xs.length / 2) 4 - 1 = 1 := by omega
    refine Evp.ob (rfar_ok _ _ _ _ _ hx bx hn (-2) (-1) (by omega) (by omega) (by omega) (by omega)) ?_
    rintro _ rfl
    simp only [ret_int, ret_bool, ret_flt, ret_slc, ret_str, ret_ptr, ret_agg, ret_tup, ob_some, bb_true, bb_false, List.getElem?_cons_zero, List.getElem?_cons_succ, List.length_cons, List.length_nil, Nat.reduceAdd, Nat.reduceLT]
    refine Evp.dec (fun h => Evp.ret (no fun e => by have hh : farE xs (-2) (-1) ≤ limitS level sharp := (sm e.2 1 (by omega)).1; omega)) fun a1 => ?_
    refine Evp.ob (rfar_ok _ _ _ _ _ hx bx hn 1 0 (by omega) (by omega) (by omega) (by omega)) ?_
    rintro _ rfl
    simp only [ret_int, ret_bool, ret_flt, ret_slc, ret_str, ret_ptr, ret_agg, ret_tup, ob_some, bb_true, bb_false, List.getElem?_cons_zero, List.getElem?_cons_succ, List.length_cons, List.length_nil, Nat.reduceAdd, Nat.reduceLT]
    refine Evp.dec (fun h => Evp.ret (no fun e => by have hh : farE xs 1 0 ≤ limitS level sharp := (sm e.2 1 (by omega)).2; omega)) fun a2 => ?_
    refine Evp.dec (fun h => absurd h (by omega)) fun _ => ?_
    refine Evp.dec (fun h => absurd h (by omega)) fun _ => ?_
    have s1 : smallE xs (limitS level sharp) 1 := ⟨trivial, Int.not_lt.1 a1, Int.not_lt.1 a2⟩
    refine Evp.ob (rfar_ok _ _ _ _ _ hx bx hn (-1) 0 (by omega) (by omega) (by omega) (by omega)) ?_
    rintro _ rfl
    simp only [ret_int, ret_bool, ret_flt, ret_slc, ret_str, ret_ptr, ret_agg, ret_tup, ob_some, bb_true, bb_false, List.getElem?_cons_zero, List.getElem?_cons_succ, List.length_cons, List.length_nil, Nat.reduceAdd, Nat.reduceLT]
    refine Evp.ob (rfar_ok _ _ _ _ _ hx bx hn (-2) 1 (by omega) (by omega) (by omega) (by omega)) ?_
    rintro _ rfl
    simp only [ret_int, ret_bool, ret_flt, ret_slc, ret_str, ret_ptr, ret_agg, ret_tup, ob_some, bb_true, bb_false, List.getElem?_cons_zero, List.getElem?_cons_succ, List.length_cons, List.length_nil, Nat.reduceAdd, Nat.reduceLT]
    rw [Int.tdiv_eq_ediv_of_nonneg f2.1, w64 (x := 2 * farE xs (-1) 0) (by omega), w64 (x := farE xs (-2) 1 / 2) (by omega), w64 (x := 2 * farE xs (-1) 0 + farE xs (-2) 1 / 2) (by omega), w64 (x := level + 2) (by omega), w64 (x := 2 * (level + 2)) (by omega), w64 (x := 2 * (level + 2) + limitS level sharp) (by omega)]
    refine Evp.ret (Run.ret ?_)
    congr 2
    exact decide_eq_decide.2 ⟨fun h => ⟨h0, by rw [hk]; exact s1, h⟩, fun h => h.2.2⟩
  · have hk : min (xs.length / 2) 4 - 1 = 2 := by omega
    refine Evp.ob (rfar_ok _ _ _ _ _ hx bx hn (-2) (-1) (by omega) (by omega) (by omega) (by omega)) ?_
    rintro _ rfl
    simp only [ret_int, ret_bool, ret_flt, ret_slc, ret_str, ret_ptr, ret_agg, ret_tup, ob_some, bb_true, bb_false, List.getElem?_cons_zero, List.getElem?_cons_succ, List.length_cons, List.length_nil, Nat.reduceAdd, Nat.reduceLT]
    refine Evp.dec (fun h => Evp.ret (no fun e => by have hh : farE xs (-2) (-1) ≤ limitS level sharp := (sm e.2 1 (by omega)).1; omega)) fun a1 => ?_
    refine Evp.ob (rfar_ok _ _ _ _ _ hx bx hn 1 0 (by omega) (by omega) (by omega) (by omega)) ?_
    rintro _ rfl
    simp only [ret_int, ret_bool, ret_flt, ret_slc, ret_str, ret_ptr, ret_agg, ret_tup, ob_some, bb_true, bb_false, List.getElem?_cons_zero, List.getElem?_cons_succ, List.length_cons, List.length_nil, Nat.reduceAdd, Nat.reduceLT]
    refine Evp.dec (fun h => Evp.ret (no fun e => by have hh : farE xs 1 0 ≤ limitS level sharp := (sm e.2 1 (by omega)).2; omega)) fun a2 => ?_
    refine Evp.dec (fun _ => ?_) fun h => absurd h (by omega)
    refine Evp.ob (rfar_ok _ _ _ _ _ hx bx hn (-3) (-2) (by omega) (by omega) (by omega) (by omega)) ?_
    rintro _ rfl
    simp only [ret_int, ret_bool, ret_flt, ret_slc, ret_str, ret_ptr, ret_agg, ret_tup, ob_some, bb_true, bb_false, List.getElem?_cons_zero, List.getElem?_cons_succ, List.length_cons, List.length_nil, Nat.reduceAdd, Nat.reduceLT]
    refine Evp.dec (fun h => Evp.ret (no fun e => by have hh : farE xs (-3) (-2) ≤ limitS level sharp := (sm e.2 2 (by omega)).1; omega)) fun b1 => ?_
    refine Evp.ob (rfar_ok _ _ _ _ _ hx bx hn 2 1 (by omega) (by omega) (by omega) (by omega)) ?_
    rintro _ rfl
    simp only [ret_int, ret_bool, ret_flt, ret_slc, ret_str, ret_ptr, ret_agg, ret_tup, ob_some, bb_true, bb_false, List.getElem?_cons_zero, List.getElem?_cons_succ, List.length_cons, List.length_nil, Nat.reduceAdd, Nat.reduceLT]
    refine Evp.dec (fun h => Evp.ret (no fun e => by have hh : farE xs 2 1 ≤ limitS level sharp := (sm e.2 2 (by omega)).2; omega)) fun b2 => ?_
    refine Evp.dec (fun h => absurd h (by omega)) fun _ => ?_
    have s1 : smallE xs (limitS level sharp) 1 := ⟨trivial, Int.not_lt.1 a1, Int.not_lt.1 a2⟩
    have s2 : smallE xs (limitS level sharp) 2 := ⟨s1, Int.not_lt.1 b1, Int.not_lt.1 b2⟩
    refine Evp.ob (rfar_ok _ _ _ _ _ hx bx hn (-1) 0 (by omega) (by omega) (by omega) (by omega)) ?_
    rintro _ rfl
    simp only [ret_int, ret_bool, ret_flt, ret_slc, ret_str, ret_ptr, ret_agg, ret_tup, ob_some, bb_true, bb_false, List.getElem?_cons_zero, List.getElem?_cons_succ, List.length_cons, List.length_nil, Nat.reduceAdd, Nat.reduceLT]
    refine Evp.ob (rfar_ok _ _ _ _ _ hx bx hn (-2) 1 (by omega) (by omega) (by omega) (by omega)) ?_
    rintro _ rfl
    simp only [ret_int, ret_bool, ret_flt, ret_slc, ret_str, ret_ptr, ret_agg, ret_tup, ob_some, bb_true, bb_false, List.getElem?_cons_zero, List.getElem?_cons_succ, List.length_cons, List.length_nil, Nat.reduceAdd, Nat.reduceLT]
    rw [Int.tdiv_eq_ediv_of_nonneg f2.1, w64 (x := 2 * farE xs (-1) 0) (by omega), w64 (x := farE xs (-2) 1 / 2) (by omega), w64 (x := 2 * farE xs (-1) 0 + farE xs (-2) 1 / 2) (by omega), w64 (x := level + 2) (by omega), w64 (x := 2 * (level + 2)) (by omega), w64 (x := 2 * (level + 2) + limitS level sharp) (by omega)]
    refine Evp.ret (Run.ret ?_)
    congr 2
    exact decide_eq_decide.2 ⟨fun h => ⟨h0, by rw [hk]; exact s2, h⟩, fun h => h.2.2⟩
  · have hk : min (xs.length / 2) 4 - 1 = 3 := by omega
    refine Evp.ob (rfar_ok _ _ _ _ _ hx bx hn (-2) (-1) (by omega) (by omega) (by omega) (by omega)) ?_
    rintro _ rfl
    simp only [ret_int, ret_bool, ret_flt, ret_slc, ret_str, ret_ptr, ret_agg, ret_tup, ob_some, bb_true, bb_false, List.getElem?_cons_zero, List.getElem?_cons_succ, List.length_cons, List.length_nil, Nat.reduceAdd, Nat.reduceLT]
    refine Evp.dec (fun h => Evp.ret (no fun e => by have hh : farE xs (-2) (-1) ≤ limitS level sharp := (sm e.2 1 (by omega)).1; omega)) fun a1 => ?_
    refine Evp.ob (rfar_ok _ _ _ _ _ hx bx hn 1 0 (by omega) (by omega) (by omega) (by omega)) ?_
    rintro _ rfl
    simp only [ret_int, ret_bool, ret_flt, ret_slc, ret_str, ret_ptr, ret_agg, ret_tup, ob_some, bb_true, bb_false, List.getElem?_cons_zero, List.getElem?_cons_succ, List.length_cons, List.length_nil, Nat.reduceAdd, Nat.reduceLT]
    refine Evp.dec (fun h => Evp.ret (no fun e => by have hh : farE xs 1 0 ≤ limitS level sharp := (sm e.2 1 (by omega)).2; omega)) fun a2 => ?_
    refine Evp.dec (fun _ => ?_) fun h => absurd h (by omega)
    refine Evp.ob (rfar_ok _ _ _ _ _ hx bx hn (-3) (-2) (by omega) (by omega) (by omega) (by omega)) ?_
    rintro _ rfl
    simp only [ret_int, ret_bool, ret_flt, ret_slc, ret_str, ret_ptr, ret_agg, ret_tup, ob_some, bb_true, bb_false, List.getElem?_cons_zero, List.getElem?_cons_succ, List.length_cons, List.length_nil, Nat.reduceAdd, Nat.reduceLT]
    refine Evp.dec (fun h => Evp.ret (no fun e => by have hh : farE xs (-3) (-2) ≤ limitS level sharp := (sm e.2 2 (by omega)).1; omega)) fun b1 => ?_
    refine Evp.ob (rfar_ok _ _ _ _ _ hx bx hn 2 1 (by omega) (by omega) (by omega) (by omega)) ?_
    rintro _ rfl
    simp only [ret_int, ret_bool, ret_flt, ret_slc, ret_str, ret_ptr, ret_agg, ret_tup, ob_some, bb_true, bb_false, List.getElem?_cons_zero, List.getElem?_cons_succ, List.length_cons, List.length_nil, Nat.reduceAdd, Nat.reduceLT]
    refine Evp.dec (fun h => Evp.ret (no fun e => by have hh : farE xs 2 1 ≤ limitS level sharp := (sm e.2 2 (by omega)).2; omega)) fun b2 => ?_
    refine Evp.dec (fun _ => ?_) fun h => absurd h (by omega)
    refine Evp.ob (rfar_ok _ _ _ _ _ hx bx hn (-4) (-3) (by omega) (by omega) (by omega) (by omega)) ?_
    rintro _ rfl
    simp only [ret_int, ret_bool, ret_flt, ret_slc, ret_str, ret_ptr, ret_agg, ret_tup, ob_some, bb_true, bb_false, List.getElem?_cons_zero, List.getElem?_cons_succ, List.length_cons, List.length_nil, Nat.reduceAdd, Nat.reduceLT]
    refine Evp.dec (fun h => Evp.ret (no fun e => by have hh : farE xs (-4) (-3) ≤ limitS level sharp := (sm e.2 3 (by omega)).1; omega)) fun c1 => ?_
    refine Evp.ob (rfar_ok _ _ _ _ _ hx bx hn 3 2 (by omega) (by omega) (by omega) (by omega)) ?_
    rintro _ rfl
    simp only [ret_int, ret_bool, ret_flt, ret_slc, ret_str, ret_ptr, ret_agg, ret_tup, ob_some, bb_true, bb_false, List.getElem?_cons_zero, List.getElem?_cons_succ, List.length_cons, List.length_nil, Nat.reduceAdd, Nat.reduceLT]
    refine Evp.dec (fun h => Evp.ret (no fun e => by have hh : farE xs 3 2 ≤ limitS level sharp := (sm e.2 3 (by omega)).2; omega)) fun c2 => ?_
    have s1 : smallE xs (limitS level sharp) 1 := ⟨trivial, Int.not_lt.1 a1, Int.not_lt.1 a2⟩
    have s2 : smallE xs (limitS level sharp) 2 := ⟨s1, Int.not_lt.1 b1, Int.not_lt.1 b2⟩
    have s3 : smallE xs (limitS level sharp) 3 := ⟨s2, Int.not_lt.1 c1, Int.not_lt.1 c2⟩
    refine Evp.ob (rfar_ok _ _ _ _ _ hx bx hn (-1) 0 (by omega) (by omega) (by omega) (by omega)) ?_
    rintro _ rfl
    simp only [ret_int, ret_bool, ret_flt, ret_slc, ret_str, ret_ptr, ret_agg, ret_tup, ob_some, bb_true, bb_false, List.getElem?_cons_zero, List.getElem?_cons_succ, List.length_cons, List.length_nil, Nat.reduceAdd, Nat.reduceLT]
    refine Evp.ob (rfar_ok _ _ _ _ _ hx bx hn (-2) 1 (by omega) (by omega) (by omega) (by omega)) ?_
    rintro _ rfl
    simp only [ret_int, ret_bool, ret_flt, ret_slc, ret_str, ret_ptr, ret_agg, ret_tup, ob_some, bb_true, bb_false, List.getElem?_cons_zero, List.getElem?_cons_succ, List.length_cons, List.length_nil, Nat.reduceAdd, Nat.reduceLT]
    rw [Int.tdiv_eq_ediv_of_nonneg f2.1, w64 (x := 2 * farE xs (-1) 0) (by omega), w64 (x := farE xs (-2) 1 / 2) (by omega), w64 (x := 2 * farE xs (-1) 0 + farE xs (-2) 1 / 2) (by omega), w64 (x := level + 2) (by omega), w64 (x := 2 * (level + 2)) (by omega), w64 (x := 2 * (level + 2) + limitS level sharp) (by omega)]
    refine Evp.ret (Run.ret ?_)
    congr 2
    exact decide_eq_decide.2 ⟨fun h => ⟨h0, by rw [hk]; exact s3, h⟩, fun h => h.2.2⟩
  · have hk : min (xs.length / 2) 4 - 1 = 3 := by omega
    refine Evp.ob (rfar_ok _ _ _ _ _ hx bx hn (-2) (-1) (by omega) (by omega) (by omega) (by omega)) ?_
    rintro _ rfl
    simp only [ret_int, ret_bool, ret_flt, ret_slc, ret_str, ret_ptr, ret_agg, ret_tup, ob_some, bb_true, bb_false, List.getElem?_cons_zero, List.getElem?_cons_succ, List.length_cons, List.length_nil, Nat.reduceAdd, Nat.reduceLT]
    refine Evp.dec (fun h => Evp.ret (no fun e => by have hh : farE xs (-2) (-1) ≤ limitS level sharp := (sm e.2 1 (by omega)).1; omega)) fun a1 => ?_
    refine Evp.ob (rfar_ok _ _ _ _ _ hx bx hn 1 0 (by omega) (by omega) (by omega) (by omega)) ?_
    rintro _ rfl
    simp only [ret_int, ret_bool, ret_flt, ret_slc, ret_str, ret_ptr, ret_agg, ret_tup, ob_some, bb_true, bb_false, List.getElem?_cons_zero, List.getElem?_cons_succ, List.length_cons, List.length_nil, Nat.reduceAdd, Nat.reduceLT]
    refine Evp.dec (fun h => Evp.ret (no fun e => by have hh : farE xs 1 0 ≤ limitS level sharp := (sm e.2 1 (by omega)).2; omega)) fun a2 => ?_
    refine Evp.dec (fun _ => ?_) fun h => absurd h (by omega)
    refine Evp.ob (rfar_ok _ _ _ _ _ hx bx hn (-3) (-2) (by omega) (by omega) (by omega) (by omega)) ?_
    rintro _ rfl
    simp only [ret_int, ret_bool, ret_flt, ret_slc, ret_str, ret_ptr, ret_agg, ret_tup, ob_some, bb_true, bb_false, List.getElem?_cons_zero, List.getElem?_cons_succ, List.length_cons, List.length_nil, Nat.reduceAdd, Nat.reduceLT]
    refine Evp.dec (fun h => Evp.ret (no fun e => by have hh : farE xs (-3) (-2) ≤ limitS level sharp := (sm e.2 2 (by omega)).1; omega)) fun b1 => ?_
    refine Evp.ob (rfar_ok _ _ _ _ _ hx bx hn 2 1 (by omega) (by omega) (by omega) (by omega)) ?_
    rintro _ rfl
    simp only [ret_int, ret_bool, ret_flt, ret_slc, ret_str, ret_ptr, ret_agg, ret_tup, ob_some, bb_true, bb_false, List.getElem?_cons_zero, List.getElem?_cons_succ, List.length_cons, List.length_nil, Nat.reduceAdd, Nat.reduceLT]
    refine Evp.dec (fun h => Evp.ret (no fun e => by have hh : farE xs 2 1 ≤ limitS level sharp := (sm e.2 2 (by omega)).2; omega)) fun b2 => ?_
    refine Evp.dec (fun _ => ?_) fun h => absurd h (by omega)
    refine Evp.ob (rfar_ok _ _ _ _ _ hx bx hn (-4) (-3) (by omega) (by omega) (by omega) (by omega)) ?_
    rintro _ rfl
    simp only [ret_int, ret_bool, ret_flt, ret_slc, ret_str, ret_ptr, ret_agg, ret_tup, ob_some, bb_true, bb_false, List.getElem?_cons_zero, List.getElem?_cons_succ, List.length_cons, List.length_nil, Nat.reduceAdd, Nat.reduceLT]
    refine Evp.dec (fun h => Evp.ret (no fun e => by have hh : farE xs (-4) (-3) ≤ limitS level sharp := (sm e.2 3 (by omega)).1; omega)) fun c1 => ?_
    refine Evp.ob (rfar_ok _ _ _ _ _ hx bx hn 3 2 (by omega) (by omega) (by omega) (by omega)) ?_
    rintro _ rfl
    simp only [ret_int, ret_bool, ret_flt, ret_slc, ret_str, ret_ptr, ret_agg, ret_tup, ob_some, bb_true, bb_false, List.getElem?_cons_zero, List.getElem?_cons_succ, List.length_cons, List.length_nil, Nat.reduceAdd, Nat.reduceLT]
    refine Evp.dec (fun h => Evp.ret (no fun e => by have hh : farE xs 3 2 ≤ limitS level sharp := (sm e.2 3 (by omega)).2; omega)) fun c2 => ?_
    have s1 : smallE xs (limitS level sharp) 1 := ⟨trivial, Int.not_lt.1 a1, Int.not_lt.1 a2⟩
    have s2 : smallE xs (limitS level sharp) 2 := ⟨s1, Int.not_lt.1 b1, Int.not_lt.1 b2⟩
    have s3 : smallE xs (limitS level sharp) 3 := ⟨s2, Int.not_lt.1 c1, Int.not_lt.1 c2⟩
    refine Evp.ob (rfar_ok _ _ _ _ _ hx bx hn (-1) 0 (by omega) (by omega) (by omega) (by omega)) ?_
    rintro _ rfl
    simp only [ret_int, ret_bool, ret_flt, ret_slc, ret_str, ret_ptr, ret_agg, ret_tup, ob_some, bb_true, bb_false, List.getElem?_cons_zero, List.getElem?_cons_succ, List.length_cons, List.length_nil, Nat.reduceAdd, Nat.reduceLT]
    refine Evp.ob (rfar_ok _ _ _ _ _ hx bx hn (-2) 1 (by omega) (by omega) (by omega) (by omega)) ?_
    rintro _ rfl
    simp only [ret_int, ret_bool, ret_flt, ret_slc, ret_str, ret_ptr, ret_agg, ret_tup, ob_some, bb_true, bb_false, List.getElem?_cons_zero, List.getElem?_cons_succ, List.length_cons, List.length_nil, Nat.reduceAdd, Nat.reduceLT]
    rw [Int.tdiv_eq_ediv_of_nonneg f2.1, w64 (x := 2 * farE xs (-1) 0) (by omega), w64 (x := farE xs (-2) 1 / 2) (by omega), w64 (x := 2 * farE xs (-1) 0 + farE xs (-2) 1 / 2) (by omega), w64 (x := level + 2) (by omega), w64 (x := 2 * (level + 2)) (by omega), w64 (x := 2 * (level + 2) + limitS level sharp) (by omega)]
    refine Evp.ret (Run.ret ?_)
    congr 2
    exact decide_eq_decide.2 ⟨fun h => ⟨h0, by rw [hk]; exact s3, h⟩, fun h => h.2.2⟩
def flatP (xs : List Int) : Nat → Prop
  | 0 => True
  | k + 1 => flatP xs k ∧ farE xs (-2 - k) (-1) ≤ 1 ∧ farE xs (k + 1) 0 ≤ 1
instance decFlat (xs : List Int) : (k : Nat) → Decidable (flatP xs k)
  | 0 => isTrue trivial
  | k + 1 => by
    have := decFlat xs k
    unfold flatP
    exact inferInstance
theorem flatP_mono {xs : List Int} : ∀ {n k : Nat}, k ≤ n → flatP xs n → flatP xs k
  | 0, k, h, hs => by obtain rfl : k = 0 := by omega
                      exact hs
  | n + 1, k, h, hs => by
    by_cases e : k = n + 1
    · subst e; exact hs
    · exact flatP_mono (by omega) hs.1
theorem flat_loop (hx : RdI M .u8 A xs) (bx : Bytes xs) (hn : xs.length ≤ 1000) (m : Nat) (hm : m < xs.length / 2) :
    ∀ (d k : Nat), m - k = d → k ≤ m → flatP xs k →
    Run P T lo F.deblock_line_flat (deblock_line_flat.c52 m ((k + 1 : Nat) : Int) A xs.length c ((xs.length / 2 : Nat) : Int) M) fun r => r = (.bool (decide (flatP xs m)), M) := by
  intro d
  induction d with
  | zero =>
    intro k hd hk hs
    obtain rfl : k = m := by omega
    refine Run.cut (Evp.of_eq (fun k => deblock_line_flat.p52 k ..) ?_)
    refine Evp.dec (fun h => absurd h (by omega)) fun _ => ?_
    exact Evp.ret (Run.ret (by rw [decide_eq_true hs]))
  | succ d ih =>
    intro k hd hk hs
    have bad : ¬ (farE xs (-2 - k) (-1) ≤ 1 ∧ farE xs (k + 1) 0 ≤ 1) → ¬ flatP xs m := fun h e => h (flatP_mono (k := k + 1) (by omega) e).2
    refine Run.cut (Evp.of_eq (fun k => deblock_line_flat.p52 k ..) ?_)
    refine Evp.dec (fun _ => ?_) fun h => absurd h (by omega)
    refine Evp.ob (p_ok _ _ _ _ _ hx hn ((k + 1 : Nat) : Int) (by omega) (by omega)) ?_
    rintro _ rfl
    simp only [ret_int, ret_bool, ret_flt, ret_slc, ret_str, ret_ptr, ret_agg, ret_tup, ob_some, bb_true, bb_false, List.getElem?_cons_zero, List.getElem?_cons_succ, List.length_cons, List.length_nil, Nat.reduceAdd, Nat.reduceLT]
    refine Evp.ob (p_ok _ _ _ _ _ hx hn 0 (by omega) (by omega)) ?_
    rintro _ rfl
    simp only [ret_int, ret_bool, ret_flt, ret_slc, ret_str, ret_ptr, ret_agg, ret_tup, ob_some, bb_true, bb_false, List.getElem?_cons_zero, List.getElem?_cons_succ, List.length_cons, List.length_nil, Nat.reduceAdd, Nat.reduceLT]
    refine Evp.ob (far_ok _ _ _ _ (atE_le xs bx _) (atE_le xs bx _)) ?_
    rintro _ rfl
    simp only [ret_int, ret_bool, ret_flt, ret_slc, ret_str, ret_ptr, ret_agg, ret_tup, ob_some, bb_true, bb_false, List.getElem?_cons_zero, List.getElem?_cons_succ, List.length_cons, List.length_nil, Nat.reduceAdd, Nat.reduceLT]
    rw [show -1 - ((k + 1 : Nat) : Int) = -2 - k by omega, show (-1 - 0 : Int) = -1 by omega]
    refine Evp.dec (fun h => Evp.ret (Run.ret ?_)) fun g1 => ?_
    · rw [decide_eq_false (bad fun e => by have := e.1; unfold farE at this; omega)]
    refine Evp.ob (q_ok _ _ _ _ _ hx hn ((k + 1 : Nat) : Int) (by omega) (by omega)) ?_
    rintro _ rfl
    simp only [ret_int, ret_bool, ret_flt, ret_slc, ret_str, ret_ptr, ret_agg, ret_tup, ob_some, bb_true, bb_false, List.getElem?_cons_zero, List.getElem?_cons_succ, List.length_cons, List.length_nil, Nat.reduceAdd, Nat.reduceLT]
    refine Evp.ob (q_ok _ _ _ _ _ hx hn 0 (by omega) (by omega)) ?_
    rintro _ rfl
    simp only [ret_int, ret_bool, ret_flt, ret_slc, ret_str, ret_ptr, ret_agg, ret_tup, ob_some, bb_true, bb_false, List.getElem?_cons_zero, List.getElem?_cons_succ, List.length_cons, List.length_nil, Nat.reduceAdd, Nat.reduceLT]
    refine Evp.ob (far_ok _ _ _ _ (atE_le xs bx _) (atE_le xs bx _)) ?_
    rintro _ rfl
    simp only [ret_int, ret_bool, ret_flt, ret_slc, ret_str, ret_ptr, ret_agg, ret_tup, ob_some, bb_true, bb_false, List.getElem?_cons_zero, List.getElem?_cons_succ, List.length_cons, List.length_nil, Nat.reduceAdd, Nat.reduceLT]
    refine Evp.dec (fun h => Evp.ret (Run.ret ?_)) fun g2 => ?_
    · rw [decide_eq_false (bad fun e => by have := e.2; unfold farE at this; rw [show ((k + 1 : Nat) : Int) = (k : Int) + 1 by omega] at h; omega)]
    rw [w64 (x := ((k + 1 : Nat) : Int) + 1) (by omega)]
    refine Evp.ret (ih (k + 1) (by omega) (by omega) ⟨hs, ?_, ?_⟩)
    · unfold farE; omega
    · unfold farE; rw [show ((k + 1 : Nat) : Int) = (k : Int) + 1 by omega] at g2; omega
theorem flat_ok (hx : RdI M .u8 A xs) (bx : Bytes xs) (hn : xs.length ≤ 1000) (m : Nat) (hm : m < xs.length / 2) :
    Ac P T lo F.deblock_line_flat [.agg ⟨[.slice A xs.length c, .int .i64 ((xs.length / 2 : Nat) : Int)]⟩, .int .i64 1, .int .i64 m] M fun r => r = (.bool (decide (flatP xs m)), M) := by
  refine Ac.of (Evp.of_eq (fun k => deblock_line_flat.entry k ..) ?_)
  exact Evp.ret (flat_loop lo A c xs M hx bx hn m hm m 0 rfl (by omega) trivial)
theorem rflat_loop (hx : RdI M .u8 A xs) (bx : Bytes xs) (hn : xs.length ≤ 1000) (m : Nat) (hm : m < xs.length / 2) (hm2 : 2 * (xs.length / 2) = xs.length) :
    ∀ (d k : Nat), m - k = d → k ≤ m → flatP xs k →
    Run P T lo F.zoetroperef22_flat (zoetroperef22_flat.c52 A xs.length c m ((k + 1 : Nat) : Int) M) fun r => r = (.bool (decide (flatP xs m)), M) := by
  intro d
  induction d with
  | zero =>
    intro k hd hk hs
    obtain rfl : k = m := by omega
    refine Run.cut (Evp.of_eq (fun k => zoetroperef22_flat.p52 k ..) ?_)
    refine Evp.dec (fun h => absurd h (by omega)) fun _ => ?_
    exact Evp.ret (Run.ret (by rw [decide_eq_true hs]))
  | succ d ih =>
    intro k hd hk hs
    have bad : ¬ (farE xs (-2 - k) (-1) ≤ 1 ∧ farE xs (k + 1) 0 ≤ 1) → ¬ flatP xs m := fun h e => h (flatP_mono (k := k + 1) (by omega) e).2
    refine Run.cut (Evp.of_eq (fun k => zoetroperef22_flat.p52 k ..) ?_)
    refine Evp.dec (fun _ => ?_) fun h => absurd h (by omega)
    rw [w64 (x := 0 - ((k + 1 : Nat) : Int)) (by omega), w64 (x := 0 - ((k + 1 : Nat) : Int) - 1) (by omega), show 0 - ((k + 1 : Nat) : Int) - 1 = -2 - k by omega, w64 (x := ((k + 1 : Nat) : Int) + 1) (by omega), show ((k + 1 : Nat) : Int) = (k : Int) + 1 by omega]
    refine Evp.ob (rfar_ok _ _ _ _ _ hx bx hn (-2 - k) (-1) (by omega) (by omega) (by omega) (by omega)) ?_
    rintro _ rfl
    simp only [ret_int, ret_bool, ret_flt, ret_slc, ret_str, ret_ptr, ret_agg, ret_tup, ob_some, bb_true, bb_false, List.getElem?_cons_zero, List.getElem?_cons_succ, List.length_cons, List.length_nil, Nat.reduceAdd, Nat.reduceLT]
    refine Evp.dec (fun h => Evp.ret (Run.ret (by rw [decide_eq_false (bad fun e => by have := e.1; omega)]))) fun g1 => ?_
    refine Evp.ob (rfar_ok _ _ _ _ _ hx bx hn ((k : Int) + 1) 0 (by omega) (by omega) (by omega) (by omega)) ?_
    rintro _ rfl
    simp only [ret_int, ret_bool, ret_flt, ret_slc, ret_str, ret_ptr, ret_agg, ret_tup, ob_some, bb_true, bb_false, List.getElem?_cons_zero, List.getElem?_cons_succ, List.length_cons, List.length_nil, Nat.reduceAdd, Nat.reduceLT]
    refine Evp.dec (fun h => Evp.ret (Run.ret (by rw [decide_eq_false (bad fun e => by have := e.2; omega)]))) fun g2 => ?_
    exact Evp.ret (ih (k + 1) (by omega) (by omega) ⟨hs, by omega, by omega⟩)
theorem rflat_ok (hx : RdI M .u8 A xs) (bx : Bytes xs) (hn : xs.length ≤ 1000) (m : Nat) (hm : m < xs.length / 2) (hm2 : 2 * (xs.length / 2) = xs.length) :
    Ac P T lo F.zoetroperef22_flat [.slice A xs.length c, .int .i64 1, .int .i64 m] M fun r => r = (.bool (decide (flatP xs m)), M) := by
  refine Ac.of (Evp.of_eq (fun k => zoetroperef22_flat.entry k ..) ?_)
  exact Evp.ret (rflat_loop lo A c xs M hx bx hn m hm hm2 m 0 rfl (by omega) trivial)
end
end Go.Zt
