/- What the law ChainKnown needs of the text Fa. -/
import Derived.Test.YtbbfdebfhgdciaaPAb31
import Derived.Test.YtbbfdebfhgdciaaPEq0
import Derived.KernelRfl
import Derived.Test.YtbbfdebfhgdciaaPEq2
import Derived.Test.YtbbfdebfhgdciaaPEq3
import Derived.Test.YtbbfdebfhgdciaaPEq4
set_option linter.unusedVariables false
set_option linter.unusedSimpArgs false
set_option maxRecDepth 100000
namespace Go.Zt
def Bytes (xs : List Int) : Prop := ∀ x ∈ xs, 0 ≤ x ∧ x ≤ 255
theorem Bytes.get {xs : List Int} (h : Bytes xs) (i : Nat) : 0 ≤ xs.getD i 0 ∧ xs.getD i 0 ≤ 255 := by
  rw [List.getD_eq_getElem?_getD]
  cases hx : xs[i]? with
  | none => simp
  | some x => simpa using h x (List.mem_of_getElem? hx)
theorem Grow.rdI {M0 M : Mem} {A : Option Addr} {k : IntKind} {xs : List Int} (h : Grow M0 M 1 A xs.length (xs.map (Value.int k))) : RdI M k A xs := h.rd
def clipS (v a b : Int) : Int := if v < a then a else if v > b then b else v
theorem minmax_clip {v a b : Int} (h : a ≤ b) : minI (maxI v a) b = clipS v a b := by
  unfold minI maxI clipS; repeat' split
  all_goals omega
theorem clipS_le {v a b : Int} (h : a ≤ b) : a ≤ clipS v a b ∧ clipS v a b ≤ b := by
  unfold clipS; split
  · omega
  · split <;> omega
def absS (d : Int) : Int := if d < 0 then -d else d
theorem far_ok (lo : Nat) (x y : Int) (M : Mem) (hx : 0 ≤ x ∧ x ≤ 255) (hy : 0 ≤ y ∧ y ≤ 255) : Ac P T lo F.deblock_far [.int .u8 x, .int .u8 y] M fun r => r = (.int .i64 (absS (x - y)), M) := by
  refine Ac.of (Evp.of_eq (fun k => deblock_far.entry k ..) ?_)
  rw [w64 (x := x) (by omega), w64 (x := y) (by omega), w64 (x := x - y) (by omega), w64 (x := y - x) (by omega)]
  refine Evp.ret (Run.ret ?_)
  congr 2
  unfold maxI absS
  split <;> split <;> omega
def atE (xs : List Int) (i : Int) : Int := xs.getD (((xs.length / 2 : Nat) : Int) + i).toNat 0
def farE (xs : List Int) (i k : Int) : Int := absS (atE xs i - atE xs k)
section
variable (lo : Nat) (A : Option Addr) (c : Nat) (xs : List Int) (M : Mem)
theorem atE_le (bx : Bytes xs) (i : Int) : 0 ≤ atE xs i ∧ atE xs i ≤ 255 := bx.get _
theorem p_ok (hx : RdI M .u8 A xs) (hn : xs.length ≤ 1000) (i : Int) (h0 : 0 ≤ i) (h1 : i < ((xs.length / 2 : Nat) : Int)) : Ac P T lo F.deblock_line_p [.agg ⟨[.slice A xs.length c, .int .i64 ((xs.length / 2 : Nat) : Int)]⟩, .int .i64 i] M fun r => r = (.int .u8 (atE xs (-1 - i)), M) := by
  refine Ac.of (Evp.of_eq (fun k => deblock_line_p.entry k ..) ?_)
  rw [w64 (x := ((xs.length / 2 : Nat) : Int) - 1) (by omega), w64 (x := ((xs.length / 2 : Nat) : Int) - 1 - i) (by omega)]
  refine Evp.pos (by omega) (Evp.ldI hx (by omega) fun _ _ => ?_)
  refine Evp.ret (Run.ret ?_)
  unfold atE
  rw [show ((xs.length / 2 : Nat) : Int) + (-1 - i) = ((xs.length / 2 : Nat) : Int) - 1 - i by omega]
theorem q_ok (hx : RdI M .u8 A xs) (hn : xs.length ≤ 1000) (i : Int) (h0 : 0 ≤ i) (h1 : i < ((xs.length / 2 : Nat) : Int)) : Ac P T lo F.deblock_line_q [.agg ⟨[.slice A xs.length c, .int .i64 ((xs.length / 2 : Nat) : Int)]⟩, .int .i64 i] M fun r => r = (.int .u8 (atE xs i), M) := by
  refine Ac.of (Evp.of_eq (fun k => deblock_line_q.entry k ..) ?_)
  rw [w64 (x := ((xs.length / 2 : Nat) : Int) + i) (by omega)]
  refine Evp.pos (by omega) (Evp.ldI hx (by omega) fun _ _ => ?_)
  exact Evp.ret (Run.ret rfl)
end
def limitS (level sharp : Int) : Int := maxI (if sharp > 4 then minI (level / 4) (9 - sharp) else if sharp > 0 then minI (level / 2) (9 - sharp) else level) 1
theorem bounds_ok (lo : Nat) (level sharp : Int) (M : Mem) (hl : 0 ≤ level ∧ level ≤ 63) (hs : 0 ≤ sharp ∧ sharp ≤ 7) : Ac P T lo F.deblock_boundsOf [.int .i64 level, .int .i64 sharp] M fun r => r = (.agg ⟨[.int .i64 (limitS level sharp), .int .i64 (2 * (level + 2) + limitS level sharp), .int .i64 (level / 16)]⟩, M) := by
  have s2 : shrI .i64 level 2 = level / 4 := by rw [shr_eq 2 (by omega)]; rfl
  have s1 : shrI .i64 level 1 = level / 2 := by rw [shr_eq 1 (by omega)]; rfl
  have s4 : shrI .i64 level 4 = level / 16 := by rw [shr_eq 4 (by omega)]; rfl
  have fin : ∀ z : Int, -100 ≤ z ∧ z ≤ 100 → maxI z 1 = limitS level sharp → Run P T lo F.deblock_boundsOf (deblock_boundsOf.c15 level z 0 0 0 M) fun r => r = (.agg ⟨[.int .i64 (limitS level sharp), .int .i64 (2 * (level + 2) + limitS level sharp), .int .i64 (level / 16)]⟩, M) := fun z hz e => by
    refine Run.cut (Evp.of_eq (fun k => deblock_boundsOf.p15 k ..) ?_)
    have hb : -100 ≤ maxI z 1 ∧ maxI z 1 ≤ 100 := by unfold maxI; split <;> omega
    rw [s4, w64 (x := level + 2) (by omega), w64 (x := 2 * (level + 2)) (by omega), w64 (x := 2 * (level + 2) + maxI z 1) (by omega), e]
    exact Evp.ret (Run.ret rfl)
  have hm : ∀ z : Int, 0 ≤ z ∧ z ≤ 63 → -100 ≤ minI z (9 - sharp) ∧ minI z (9 - sharp) ≤ 100 := fun z hz => by unfold minI; split <;> omega
  refine Ac.of (Evp.of_eq (fun k => deblock_boundsOf.entry k ..) ?_)
  rw [s2, s1, w64 (x := 9 - sharp) (by omega)]
  refine Evp.dec (fun h1 => Evp.ret (fin _ (hm _ (by omega)) (by unfold limitS; rw [if_pos h1]))) fun h1 => ?_
  refine Evp.dec (fun h2 => Evp.ret (fin _ (hm _ (by omega)) (by unfold limitS; rw [if_neg h1, if_pos h2]))) fun h2 => ?_
  exact Evp.ret (fin _ (by omega) (by unfold limitS; rw [if_neg h1, if_neg h2]))
def smallE (xs : List Int) (lim : Int) : Nat → Prop
  | 0 => True
  | k + 1 => smallE xs lim k ∧ farE xs (-2 - k) (-1 - k) ≤ lim ∧ farE xs (k + 1) k ≤ lim
instance decSmall (xs : List Int) (lim : Int) : (k : Nat) → Decidable (smallE xs lim k)
  | 0 => isTrue trivial
  | k + 1 => by
    have := decSmall xs lim k
    unfold smallE
    exact inferInstance
def smoothE (xs : List Int) (lim edge : Int) : Prop := smallE xs lim (min (xs.length / 2) 4 - 1) ∧ 2 * farE xs (-1) 0 + farE xs (-2) 1 / 2 ≤ edge
instance (xs : List Int) (lim edge : Int) : Decidable (smoothE xs lim edge) := inferInstanceAs (Decidable (_ ∧ _))
theorem smallE_mono {xs : List Int} {lim : Int} : ∀ {n k : Nat}, k ≤ n → smallE xs lim n → smallE xs lim k
  | 0, k, h, hs => by obtain rfl : k = 0 := by omega
                      exact hs
  | n + 1, k, h, hs => by
    by_cases e : k = n + 1
    · subst e; exact hs
    · exact smallE_mono (by omega) hs.1
theorem farE_le {xs : List Int} (bx : Bytes xs) (i k : Int) : 0 ≤ farE xs i k ∧ farE xs i k ≤ 255 := by
  have h1 := atE_le xs bx i
  have h2 := atE_le xs bx k
  unfold farE absS
  split <;> omega
section
variable (lo : Nat) (A : Option Addr) (c : Nat) (xs : List Int) (M : Mem)
theorem rough_loop (hx : RdI M .u8 A xs) (bx : Bytes xs) (hn : xs.length ≤ 1000) (h4 : 4 ≤ xs.length) (lim edge t : Int) :
    ∀ (d k : Nat), min (xs.length / 2) 4 - 1 - k = d → k ≤ min (xs.length / 2) 4 - 1 → smallE xs lim k →
    Run P T lo F.deblock_line_rough (deblock_line_rough.c116 ((min (xs.length / 2) 4 : Nat) : Int) ((k + 1 : Nat) : Int) A xs.length c ((xs.length / 2 : Nat) : Int) lim edge t M) fun r => r = (.bool (decide (¬ smoothE xs lim edge)), M) := by
  intro d
  induction d with
  | zero =>
    intro k hd hk hs
    obtain rfl : k = min (xs.length / 2) 4 - 1 := by omega
    refine Run.cut (Evp.of_eq (fun k => deblock_line_rough.p116 k ..) ?_)
    refine Evp.dec (fun h => absurd h (by omega)) fun _ => ?_
    refine Evp.ob (p_ok _ _ _ _ _ hx hn 0 (by omega) (by omega)) ?_
    rintro _ rfl
    simp only [ret_int, ret_bool, ret_flt, ret_slc, ret_str, ret_ptr, ret_agg, ret_tup, ob_some, bb_true, bb_false, List.getElem?_cons_zero, List.getElem?_cons_succ, List.length_cons, List.length_nil, Nat.reduceAdd, Nat.reduceLT]
    refine Evp.ob (q_ok _ _ _ _ _ hx hn 0 (by omega) (by omega)) ?_
    rintro _ rfl
    simp only [ret_int, ret_bool, ret_flt, ret_slc, ret_str, ret_ptr, ret_agg, ret_tup, ob_some, bb_true, bb_false, List.getElem?_cons_zero, List.getElem?_cons_succ, List.length_cons, List.length_nil, Nat.reduceAdd, Nat.reduceLT]
    refine Evp.ob (far_ok _ _ _ _ (atE_le xs bx _) (atE_le xs bx _)) ?_
    rintro _ rfl
    simp only [ret_int, ret_bool, ret_flt, ret_slc, ret_str, ret_ptr, ret_agg, ret_tup, ob_some, bb_true, bb_false, List.getElem?_cons_zero, List.getElem?_cons_succ, List.length_cons, List.length_nil, Nat.reduceAdd, Nat.reduceLT]
    refine Evp.ob (p_ok _ _ _ _ _ hx hn 1 (by omega) (by omega)) ?_
    rintro _ rfl
    simp only [ret_int, ret_bool, ret_flt, ret_slc, ret_str, ret_ptr, ret_agg, ret_tup, ob_some, bb_true, bb_false, List.getElem?_cons_zero, List.getElem?_cons_succ, List.length_cons, List.length_nil, Nat.reduceAdd, Nat.reduceLT]
    refine Evp.ob (q_ok _ _ _ _ _ hx hn 1 (by omega) (by omega)) ?_
    rintro _ rfl
    simp only [ret_int, ret_bool, ret_flt, ret_slc, ret_str, ret_ptr, ret_agg, ret_tup, ob_some, bb_true, bb_false, List.getElem?_cons_zero, List.getElem?_cons_succ, List.length_cons, List.length_nil, Nat.reduceAdd, Nat.reduceLT]
    refine Evp.ob (far_ok _ _ _ _ (atE_le xs bx _) (atE_le xs bx _)) ?_
    rintro _ rfl
    simp only [ret_int, ret_bool, ret_flt, ret_slc, ret_str, ret_ptr, ret_agg, ret_tup, ob_some, bb_true, bb_false, List.getElem?_cons_zero, List.getElem?_cons_succ, List.length_cons, List.length_nil, Nat.reduceAdd, Nat.reduceLT]
    have f1 := farE_le bx (-1) 0
    have f2 := farE_le bx (-2) 1
    rw [show (-1 - 0 : Int) = -1 by omega, show (-1 - 1 : Int) = -2 by omega, show absS (atE xs (-1) - atE xs 0) = farE xs (-1) 0 from rfl, show absS (atE xs (-2) - atE xs 1) = farE xs (-2) 1 from rfl, Int.tdiv_eq_ediv_of_nonneg f2.1, w64 (x := 2 * farE xs (-1) 0) (by omega), w64 (x := farE xs (-2) 1 / 2) (by omega), w64 (x := 2 * farE xs (-1) 0 + farE xs (-2) 1 / 2) (by omega)]
    refine Evp.ret (Run.ret ?_)
    congr 2
    refine decide_eq_decide.2 ⟨fun h e => by have := e.2; omega, fun h => ?_⟩
    by_cases hh : 2 * farE xs (-1) 0 + farE xs (-2) 1 / 2 > edge
    · exact hh
    · exact absurd ⟨hs, by omega⟩ h
  | succ d ih =>
    intro k hd hk hs
    have bad : ¬ (farE xs (-2 - k) (-1 - k) ≤ lim ∧ farE xs (k + 1) k ≤ lim) → ¬ smoothE xs lim edge := fun h e => h (smallE_mono (k := k + 1) (by omega) e.1).2
    refine Run.cut (Evp.of_eq (fun k => deblock_line_rough.p116 k ..) ?_)
    refine Evp.dec (fun _ => ?_) fun h => absurd h (by omega)
    rw [w64 (x := ((k + 1 : Nat) : Int) - 1) (by omega)]
    refine Evp.ob (p_ok _ _ _ _ _ hx hn ((k + 1 : Nat) : Int) (by omega) (by omega)) ?_
    rintro _ rfl
    simp only [ret_int, ret_bool, ret_flt, ret_slc, ret_str, ret_ptr, ret_agg, ret_tup, ob_some, bb_true, bb_false, List.getElem?_cons_zero, List.getElem?_cons_succ, List.length_cons, List.length_nil, Nat.reduceAdd, Nat.reduceLT]
    refine Evp.ob (p_ok _ _ _ _ _ hx hn (((k + 1 : Nat) : Int) - 1) (by omega) (by omega)) ?_
    rintro _ rfl
    simp only [ret_int, ret_bool, ret_flt, ret_slc, ret_str, ret_ptr, ret_agg, ret_tup, ob_some, bb_true, bb_false, List.getElem?_cons_zero, List.getElem?_cons_succ, List.length_cons, List.length_nil, Nat.reduceAdd, Nat.reduceLT]
    refine Evp.ob (far_ok _ _ _ _ (atE_le xs bx _) (atE_le xs bx _)) ?_
    rintro _ rfl
    simp only [ret_int, ret_bool, ret_flt, ret_slc, ret_str, ret_ptr, ret_agg, ret_tup, ob_some, bb_true, bb_false, List.getElem?_cons_zero, List.getElem?_cons_succ, List.length_cons, List.length_nil, Nat.reduceAdd, Nat.reduceLT]
    rw [show -1 - ((k + 1 : Nat) : Int) = -2 - k by omega, show -1 - (((k + 1 : Nat) : Int) - 1) = -1 - k by omega]
    refine Evp.dec (fun h => Evp.ret (Run.ret ?_)) fun g1 => ?_
    · rw [decide_eq_true (bad fun e => by have := e.1; unfold farE at this; omega)]
    refine Evp.ob (q_ok _ _ _ _ _ hx hn ((k + 1 : Nat) : Int) (by omega) (by omega)) ?_
    rintro _ rfl
    simp only [ret_int, ret_bool, ret_flt, ret_slc, ret_str, ret_ptr, ret_agg, ret_tup, ob_some, bb_true, bb_false, List.getElem?_cons_zero, List.getElem?_cons_succ, List.length_cons, List.length_nil, Nat.reduceAdd, Nat.reduceLT]
    refine Evp.ob (q_ok _ _ _ _ _ hx hn (((k + 1 : Nat) : Int) - 1) (by omega) (by omega)) ?_
    rintro _ rfl
    simp only [ret_int, ret_bool, ret_flt, ret_slc, ret_str, ret_ptr, ret_agg, ret_tup, ob_some, bb_true, bb_false, List.getElem?_cons_zero, List.getElem?_cons_succ, List.length_cons, List.length_nil, Nat.reduceAdd, Nat.reduceLT]
    refine Evp.ob (far_ok _ _ _ _ (atE_le xs bx _) (atE_le xs bx _)) ?_
    rintro _ rfl
    simp only [ret_int, ret_bool, ret_flt, ret_slc, ret_str, ret_ptr, ret_agg, ret_tup, ob_some, bb_true, bb_false, List.getElem?_cons_zero, List.getElem?_cons_succ, List.length_cons, List.length_nil, Nat.reduceAdd, Nat.reduceLT]
    rw [show ((k + 1 : Nat) : Int) - 1 = k by omega]
    refine Evp.dec (fun h => Evp.ret (Run.ret ?_)) fun g2 => ?_
    · rw [decide_eq_true (bad fun e => by have := e.2; unfold farE at this; rw [show ((k + 1 : Nat) : Int) = (k : Int) + 1 by omega] at h; omega)]
    rw [w64 (x := ((k + 1 : Nat) : Int) + 1) (by omega)]
    refine Evp.ret (ih (k + 1) (by omega) (by omega) ⟨hs, ?_, ?_⟩)
    · unfold farE; omega
    · unfold farE; rw [show ((k + 1 : Nat) : Int) = (k : Int) + 1 by omega] at g2; omega
theorem rough_ok (hx : RdI M .u8 A xs) (bx : Bytes xs) (hn : xs.length ≤ 1000) (h4 : 4 ≤ xs.length) (lim edge t : Int) :
    Ac P T lo F.deblock_line_rough [.agg ⟨[.slice A xs.length c, .int .i64 ((xs.length / 2 : Nat) : Int)]⟩, .agg ⟨[.int .i64 lim, .int .i64 edge, .int .i64 t]⟩] M fun r => r = (.bool (decide (¬ smoothE xs lim edge)), M) := by
  have e : Int.tdiv (xs.length : Int) 2 = ((xs.length / 2 : Nat) : Int) := rfl
  have e2 : minI ((xs.length / 2 : Nat) : Int) 4 = ((min (xs.length / 2) 4 : Nat) : Int) := by unfold minI; split <;> omega
  refine Ac.of (Evp.of_eq (fun k => deblock_line_rough.entry k ..) ?_)
  rw [e, w64 (x := ((xs.length / 2 : Nat) : Int)) (by omega), e2]
  exact Evp.ret (rough_loop lo A c xs M hx bx hn h4 lim edge t _ 0 rfl (by omega) trivial)
end
section
variable (lo : Nat) (A : Option Addr) (c : Nat) (xs : List Int) (M : Mem) (level sharp : Int)
def flatP (xs : List Int) : Nat → Prop
  | 0 => True
  | k + 1 => flatP xs k ∧ farE xs (-2 - k) (-1) ≤ 1 ∧ farE xs (k + 1) 0 ≤ 1
instance decFlat (xs : List Int) : (k : Nat) → Decidable (flatP xs k)
  | 0 => isTrue trivial
  | k + 1 => by
    have := decFlat xs k
    unfold flatP
    exact inferInstance
theorem flatP_mono {xs : List Int} : ∀ {n k : Nat}, k ≤ n → flatP xs n → flatP xs k
  | 0, k, h, hs => by obtain rfl : k = 0 := by omega
                      exact hs
  | n + 1, k, h, hs => by
    by_cases e : k = n + 1
    · subst e; exact hs
    · exact flatP_mono (by omega) hs.1
theorem flat_loop (hx : RdI M .u8 A xs) (bx : Bytes xs) (hn : xs.length ≤ 1000) (m : Nat) (hm : m < xs.length / 2) :
    ∀ (d k : Nat), m - k = d → k ≤ m → flatP xs k →
    Run P T lo F.deblock_line_flat (deblock_line_flat.c52 m ((k + 1 : Nat) : Int) A xs.length c ((xs.length / 2 : Nat) : Int) M) fun r => r = (.bool (decide (flatP xs m)), M) := by
  intro d
  induction d with
  | zero =>
    intro k hd hk hs
    obtain rfl : k = m := by omega
    refine Run.cut (Evp.of_eq (fun k => deblock_line_flat.p52 k ..) ?_)
    refine Evp.dec (fun h => absurd h (by omega)) fun _ => ?_
    exact Evp.ret (Run.ret (by rw [decide_eq_true hs]))
  | succ d ih =>
    intro k hd hk hs
    have bad : ¬ (farE xs (-2 - k) (-1) ≤ 1 ∧ farE xs (k + 1) 0 ≤ 1) → ¬ flatP xs m := fun h e => h (flatP_mono (k := k + 1) (by omega) e).2
    refine Run.cut (Evp.of_eq (fun k => deblock_line_flat.p52 k ..) ?_)
    refine Evp.dec (fun _ => ?_) fun h => absurd h (by omega)
    refine Evp.ob (p_ok _ _ _ _ _ hx hn ((k + 1 : Nat) : Int) (by omega) (by omega)) ?_
    rintro _ rfl
    simp only [ret_int, ret_bool, ret_flt, ret_slc, ret_str, ret_ptr, ret_agg, ret_tup, ob_some, bb_true, bb_false, List.getElem?_cons_zero, List.getElem?_cons_succ, List.length_cons, List.length_nil, Nat.reduceAdd, Nat.reduceLT]
    refine Evp.ob (p_ok _ _ _ _ _ hx hn 0 (by omega) (by omega)) ?_
    rintro _ rfl
    simp only [ret_int, ret_bool, ret_flt, ret_slc, ret_str, ret_ptr, ret_agg, ret_tup, ob_some, bb_true, bb_false, List.getElem?_cons_zero, List.getElem?_cons_succ, List.length_cons, List.length_nil, Nat.reduceAdd, Nat.reduceLT]
    refine Evp.ob (far_ok _ _ _ _ (atE_le xs bx _) (atE_le xs bx _)) ?_
    rintro _ rfl
    simp only [ret_int, ret_bool, ret_flt, ret_slc, ret_str, ret_ptr, ret_agg, ret_tup, ob_some, bb_true, bb_false, List.getElem?_cons_zero, List.getElem?_cons_succ, List.length_cons, List.length_nil, Nat.reduceAdd, Nat.reduceLT]
    rw [show -1 - ((k + 1 : Nat) : Int) = -2 - k by omega, show (-1 - 0 : Int) = -1 by omega]
    refine Evp.dec (fun h => Evp.ret (Run.ret ?_)) fun g1 => ?_
    · rw [decide_eq_false (bad fun e => by have := e.1; unfold farE at this; omega)]
    refine Evp.ob (q_ok _ _ _ _ _ hx hn ((k + 1 : Nat) : Int) (by omega) (by omega)) ?_
    rintro _ rfl
    simp only [ret_int, ret_bool, ret_flt, ret_slc, ret_str, ret_ptr, ret_agg, ret_tup, ob_some, bb_true, bb_false, List.getElem?_cons_zero, List.getElem?_cons_succ, List.length_cons, List.length_nil, Nat.reduceAdd, Nat.reduceLT]
    refine Evp.ob (q_ok _ _ _ _ _ hx hn 0 (by omega) (by omega)) ?_
    rintro _ rfl
    simp only [ret_int, ret_bool, ret_flt, ret_slc, ret_str, ret_ptr, ret_agg, ret_tup, ob_some, bb_true, bb_false, List.getElem?_cons_zero, List.getElem?_cons_succ, List.length_cons, List.length_nil, Nat.reduceAdd, Nat.reduceLT]
    refine Evp.ob (far_ok _ _ _ _ (atE_le xs bx _) (atE_le xs bx _)) ?_
    rintro _ rfl
    simp only [ret_int, ret_bool, ret_flt, ret_slc, ret_str, ret_ptr, ret_agg, ret_tup, ob_some, bb_true, bb_false, List.getElem?_cons_zero, List.getElem?_cons_succ, List.length_cons, List.length_nil, Nat.reduceAdd, Nat.reduceLT]
    refine Evp.dec (fun h => Evp.ret (Run.ret ?_)) fun g2 => ?_
    · rw [decide_eq_false (bad fun e => by have := e.2; unfold farE at this; rw [show ((k + 1 : Nat) : Int) = (k : Int) + 1 by omega] at h; omega)]
    rw [w64 (x := ((k + 1 : Nat) : Int) + 1) (by omega)]
    refine Evp.ret (ih (k + 1) (by omega) (by omega) ⟨hs, ?_, ?_⟩)
    · unfold farE; omega
    · unfold farE; rw [show ((k + 1 : Nat) : Int) = (k : Int) + 1 by omega] at g2; omega
theorem flat_ok (hx : RdI M .u8 A xs) (bx : Bytes xs) (hn : xs.length ≤ 1000) (m : Nat) (hm : m < xs.length / 2) :
    Ac P T lo F.deblock_line_flat [.agg ⟨[.slice A xs.length c, .int .i64 ((xs.length / 2 : Nat) : Int)]⟩, .int .i64 1, .int .i64 m] M fun r => r = (.bool (decide (flatP xs m)), M) := by
  refine Ac.of (Evp.of_eq (fun k => deblock_line_flat.entry k ..) ?_)
  exact Evp.ret (flat_loop lo A c xs M hx bx hn m hm m 0 rfl (by omega) trivial)
end
theorem within_ok (lo : Nat) (n a b : Int) (M : Mem) : Ac P T lo F.deblock_within [.int .i64 n, .int .i64 a, .int .i64 b] M fun r => r = (.bool (decide (a ≤ n ∧ n ≤ b)), M) := by
  refine Ac.of (Evp.of_eq (fun k => deblock_within.entry k ..) ?_)
  refine Evp.dec (fun h => ?_) fun h => Evp.ret (Run.ret (by rw [decide_eq_false (fun e => h e.1)]))
  refine Evp.ret (Run.ret ?_)
  congr 2
  exact decide_eq_decide.2 (by omega)
theorem dclip_ok (lo : Nat) (v a b : Int) (M : Mem) (h : a ≤ b) : Ac P T lo F.deblock_clip [.int .i64 v, .int .i64 a, .int .i64 b] M fun r => r = (.int .i64 (clipS v a b), M) := by
  refine Ac.of (Evp.of_eq (fun k => deblock_clip.entry k ..) ?_)
  rw [minmax_clip h]
  exact Evp.ret (Run.ret rfl)
def sumE (xs : List Int) (n m : Nat) (i : Int) : Nat → Int
  | 0 => 0
  | t + 1 => sumE xs n m i t + (if -(m : Int) ≤ -(n : Int) + t ∧ -(n : Int) + t ≤ m then 2 else 1) * atE xs (clipS (i + (-(n : Int) + t)) (-(n : Int) - 1) n)
theorem sumE_le {xs : List Int} (bx : Bytes xs) (n m : Nat) (i : Int) (t : Nat) : 0 ≤ sumE xs n m i t ∧ sumE xs n m i t ≤ 510 * t := by
  induction t with
  | zero => simp [sumE]
  | succ t ih =>
    have := atE_le xs bx (clipS (i + (-(n : Int) + t)) (-(n : Int) - 1) n)
    simp only [sumE]
    split <;> omega
def valE (sum sh : Int) : Int := IntKind.u8.wrap (shrI .i64 (IntKind.i64.wrap (sum + shlI .i64 1 ((IntKind.i64.wrap (sh - 1)).toNat))) sh.toNat)
def wideL (xs : List Int) (n m : Nat) (sh : Int) : Nat → List Int
  | 0 => xs
  | k + 1 => (wideL xs n m sh k).set (xs.length / 2 - n + k) (valE (sumE xs n m (-(n : Int) + k) (2 * n + 1)) sh)
theorem wideL_len (xs : List Int) (n m : Nat) (sh : Int) (k : Nat) : (wideL xs n m sh k).length = xs.length := by
  induction k with
  | zero => rfl
  | succ k ih => simp [wideL, ih]
section
variable {lo : Nat} {A : Option Addr} {c : Nat} {xs : List Int} {M0 : Mem} {a : Addr} {cc : Nat} {Q : Value × Mem → Prop} {n m : Nat} {sh : Int}
theorem wide_sum (hx : RdI M0 .u8 A xs) (bx : Bytes xs) (hn : xs.length ≤ 1000) (h2 : 2 * (xs.length / 2) = xs.length) (hnn : n + 1 ≤ xs.length / 2) (hm : m ≤ n) (M : Mem) (hp : Pre M0 M) (B : Option Addr) (nb cb : Nat) (i : Int) (hi : -(n : Int) ≤ i ∧ i < n)
    (hend : Run P T lo F.deblock_line_wide (deblock_line_wide.c29844 n m sh B nb cb i (sumE xs n m i (2 * n + 1)) ((n : Int) + 1) A xs.length c ((xs.length / 2 : Nat) : Int) M) Q) :
    ∀ (d t : Nat), 2 * n + 1 - t = d → t ≤ 2 * n + 1 →
    Run P T lo F.deblock_line_wide (deblock_line_wide.c29844 n m sh B nb cb i (sumE xs n m i t) (-(n : Int) + t) A xs.length c ((xs.length / 2 : Nat) : Int) M) Q := by
  intro d
  induction d with
  | zero =>
    intro t hd ht
    obtain rfl : t = 2 * n + 1 := by omega
    rw [show -(n : Int) + ((2 * n + 1 : Nat) : Int) = (n : Int) + 1 by omega]
    exact hend
  | succ d ih =>
    intro t hd ht
    refine Run.cut (Evp.of_eq (fun k => deblock_line_wide.p29844 k ..) ?_)
    refine Evp.dec (fun _ => ?_) fun h => absurd h (by omega)
    rw [w64 (x := i + (-(n : Int) + t)) (by omega), w64 (x := 0 - (n : Int)) (by omega), w64 (x := 0 - (n : Int) - 1) (by omega), show 0 - (n : Int) - 1 = -(n : Int) - 1 by omega]
    refine Evp.ob (dclip_ok _ _ _ _ _ (by omega)) ?_
    rintro _ rfl
    simp only [ret_int, ret_bool, ret_flt, ret_slc, ret_str, ret_ptr, ret_agg, ret_tup, ob_some, bb_true, bb_false, List.getElem?_cons_zero, List.getElem?_cons_succ, List.length_cons, List.length_nil, Nat.reduceAdd, Nat.reduceLT]
    have hc := clipS_le (v := i + (-(n : Int) + t)) (a := -(n : Int) - 1) (b := n) (by omega)
    have hs := sumE_le bx n m i t
    have ha := atE_le xs bx (clipS (i + (-(n : Int) + t)) (-(n : Int) - 1) n)
    rw [w64 (x := ((xs.length / 2 : Nat) : Int) + clipS (i + (-(n : Int) + t)) (-(n : Int) - 1) n) (by omega)]
    refine Evp.pos (by omega) (Evp.ldI (hx.pre hp) (by omega) fun _ _ => ?_)
    rw [show xs.getD (((xs.length / 2 : Nat) : Int) + clipS (i + (-(n : Int) + t)) (-(n : Int) - 1) n).toNat 0 = atE xs (clipS (i + (-(n : Int) + t)) (-(n : Int) - 1) n) from rfl]
    rw [w64 (x := 0 - (m : Int)) (by omega), show 0 - (m : Int) = -(m : Int) by omega]
    refine Evp.ob (within_ok ..) ?_
    rintro _ rfl
    simp only [ret_int, ret_bool, ret_flt, ret_slc, ret_str, ret_ptr, ret_agg, ret_tup, ob_some, bb_true, bb_false, List.getElem?_cons_zero, List.getElem?_cons_succ, List.length_cons, List.length_nil, Nat.reduceAdd, Nat.reduceLT]
    have nxt := ih (t + 1) (by omega) (by omega)
    simp only [sumE] at nxt
    generalize atE xs (clipS (i + (-(n : Int) + t)) (-(n : Int) - 1) n) = v at *
    rw [w64 (x := v) (by omega)]
    refine Evp.dec (fun h => ?_) fun h => ?_
    · rw [if_pos h] at nxt
      rw [w64 (x := sumE xs n m i t + v) (by omega), w64 (x := sumE xs n m i t + v + v) (by omega)]
      refine Evp.ret ?_
      refine Run.cut (Evp.of_eq (fun k => deblock_line_wide.p119379 k ..) ?_)
      rw [w64 (x := -(n : Int) + t + 1) (by omega), show -(n : Int) + t + 1 = -(n : Int) + ((t + 1 : Nat) : Int) by omega, show sumE xs n m i t + v + v = sumE xs n m i t + 2 * v by omega]
      exact Evp.ret nxt
    · rw [if_neg h, Int.one_mul] at nxt
      rw [w64 (x := sumE xs n m i t + v) (by omega)]
      refine Evp.ret ?_
      refine Run.cut (Evp.of_eq (fun k => deblock_line_wide.p119379 k ..) ?_)
      rw [w64 (x := -(n : Int) + t + 1) (by omega), show -(n : Int) + t + 1 = -(n : Int) + ((t + 1 : Nat) : Int) by omega]
      exact Evp.ret nxt
theorem wide_loop (hlo : lo ≤ M0.length) (hx : RdI M0 .u8 A xs) (bx : Bytes xs) (hn : xs.length ≤ 1000) (h2 : 2 * (xs.length / 2) = xs.length) (hnn : n + 1 ≤ xs.length / 2) (hm : m ≤ n) (hsh : sh = 3 ∨ sh = 4) :
    ∀ (d k : Nat) (M : Mem), 2 * n - k = d → k ≤ 2 * n → Pre M0 M → Buf M0 M a ((wideL xs n m sh k).map (Value.int .u8)) →
    Run P T lo F.deblock_line_wide (deblock_line_wide.c116 n m sh (some a) xs.length cc (-(n : Int) + k) A xs.length c ((xs.length / 2 : Nat) : Int) M) fun r => ∃ M', r = (.slice (some a) xs.length cc, M') ∧ Pre M0 M' ∧ Buf M0 M' a ((wideL xs n m sh (2 * n)).map (Value.int .u8)) := by
  intro d
  induction d with
  | zero =>
    intro k M hd hk hp hb
    obtain rfl : k = 2 * n := by omega
    refine Run.cut (Evp.of_eq (fun k => deblock_line_wide.p116 k ..) ?_)
    exact Evp.dec (fun h => absurd h (by omega)) fun _ => Evp.ret (Run.ret ⟨M, rfl, hp, hb⟩)
  | succ d ih =>
    intro k M hd hk hp hb
    refine Run.cut (Evp.of_eq (fun k => deblock_line_wide.p116 k ..) ?_)
    refine Evp.dec (fun _ => ?_) fun h => absurd h (by omega)
    rw [w64 (x := 0 - (n : Int)) (by omega), show 0 - (n : Int) = -(n : Int) + ((0 : Nat) : Int) by omega]
    refine Evp.ret (wide_sum hx bx hn h2 hnn hm M hp (some a) xs.length cc (-(n : Int) + k) (by omega) ?_ _ 0 rfl (by omega))
    refine Run.cut (Evp.of_eq (fun k => deblock_line_wide.p29844 k ..) ?_)
    refine Evp.dec (fun h => absurd h (by omega)) fun _ => ?_
    rw [w64 (x := sh - 1) (by omega), w64 (x := ((xs.length / 2 : Nat) : Int) + (-(n : Int) + k)) (by omega)]
    refine Evp.neg (by omega) (Evp.neg (by omega) (Evp.pos (by omega) (Evp.some rfl ?_)))
    rw [show (((xs.length / 2 : Nat) : Int) + (-(n : Int) + k)).toNat = xs.length / 2 - n + k by omega]
    obtain ⟨M1, g1, g2, g3, g4, g5⟩ := hb.st (lo := lo) (i := xs.length / 2 - n + k) (vs := [.int .u8 (valE (sumE xs n m (-(n : Int) + k) (2 * n + 1)) sh)]) hp hlo (by simp [wideL_len]; omega)
    unfold valE at g1
    rw [w64 (x := sh - 1) (by omega)] at g1
    refine Evp.some g1 ?_
    rw [setL_one, set_map] at g2
    rw [w64 (x := -(n : Int) + k + 1) (by omega), show -(n : Int) + k + 1 = -(n : Int) + ((k + 1 : Nat) : Int) by omega]
    exact Evp.ret (ih (k + 1) M1 (by omega) (by omega) g3 g2)
end
theorem clone_ok (lo : Nat) (A : Option Addr) (c : Nat) (xs : List Int) (M : Mem) (hr : RdI M .u8 A xs) (h0 : xs.length ≠ 0) (hn : xs.length ≤ 140737488351232) (hlo : lo ≤ M.length) :
    Ac P T lo F.slices_Clone__uint8_uint8 [.slice A xs.length c] M fun r => ∃ a cc M', r = (.slice (some a) xs.length cc, M') ∧ Pre M M' ∧ xs.length ≤ cc ∧ Buf M M' a (xs.map (Value.int .u8)) := by
  obtain ⟨a0, hA, _⟩ := hr.ld (i := 0) (by omega)
  refine Ac.of (Evp.of_eq (fun k => slices_Clone__uint8_uint8.entry k ..) ?_)
  refine Evp.ff (by rw [hA]; rfl) ?_
  refine Evp.some ((hr.pre (Pre.app _ _)).src) ?_
  have e : (M ++ [⟨.fx, []⟩] : Mem).app lo 1 1 ⟨some ⟨M.length, 0, none⟩, 0, 0⟩ (xs.map (Value.int .u8)) xs.length = some (⟨some ⟨(M ++ [⟨.fx, []⟩] : Mem).length, 0, some (xs.map (Value.int .u8)).length⟩, xs.length, xs.length⟩, (M ++ [⟨.fx, []⟩] : Mem) ++ [⟨.op 1, xs.map (Value.int .u8)⟩]) := by
    unfold Mem.app
    have hroom : room (0 + xs.length) 1 := by show (0 + xs.length) * 1 ≤ 140737488355328; omega
    simp only [h0, if_false]
    rw [if_pos hroom]
    simp
  refine Evp.some e ?_
  refine Evp.ret (Run.ret ⟨_, _, _, rfl, (Pre.app M _).trans (Pre.app _ _), Nat.le_refl _, ?_⟩)
  exact ⟨.op 1, rfl, by simp, by simp, .inr ⟨1, rfl, rfl⟩⟩
def CaseW (n m : Nat) (sh : Int) : Prop := (n = 2 ∧ m = 1 ∧ sh = 3) ∨ (n = 3 ∧ m = 0 ∧ sh = 3) ∨ (n = 6 ∧ m = 1 ∧ sh = 4)
section
variable {lo : Nat} {A : Option Addr} {c : Nat} {xs : List Int} {M : Mem} {n m : Nat} {sh : Int}
theorem wide_ok (hlo : lo ≤ M.length) (hx : RdI M .u8 A xs) (bx : Bytes xs) (hn : xs.length ≤ 1000) (h2 : 2 * (xs.length / 2) = xs.length) (hnn : n + 1 ≤ xs.length / 2) (hc : CaseW n m sh) :
    Ac P T lo F.deblock_line_wide [.agg ⟨[.slice A xs.length c, .int .i64 ((xs.length / 2 : Nat) : Int)]⟩, .int .i64 n, .int .i64 m, .int .i64 sh] M fun r => ∃ a cc M', r = (.slice (some a) xs.length cc, M') ∧ Pre M M' ∧ Buf M M' a ((wideL xs n m sh (2 * n)).map (Value.int .u8)) := by
  unfold CaseW at hc
  refine Ac.of (Evp.of_eq (fun k => deblock_line_wide.entry k ..) ?_)
  refine Evp.ob (clone_ok lo A c xs M hx (by omega) (by omega) hlo) ?_
  rintro _ ⟨a, cc, M1, rfl, p1, hcc, hb⟩
  simp only [ret_int, ret_bool, ret_flt, ret_slc, ret_str, ret_ptr, ret_agg, ret_tup, ob_some, bb_true, bb_false, List.getElem?_cons_zero, List.getElem?_cons_succ, List.length_cons, List.length_nil, Nat.reduceAdd, Nat.reduceLT]
  rw [w64 (x := 0 - (n : Int)) (by omega), show 0 - (n : Int) = -(n : Int) + ((0 : Nat) : Int) by omega]
  refine Evp.ret ((wide_loop (a := a) (cc := cc) hlo hx bx hn h2 hnn (by omega) (by omega) _ 0 M1 rfl (by omega) p1 hb).mono ?_)
  rintro _ ⟨M', rfl, p, hb'⟩
  exact ⟨a, cc, M', rfl, p, hb'⟩
end
def hevP (xs : List Int) (t : Int) : Prop := farE xs (-2) (-1) > t ∨ farE xs 1 0 > t
instance (xs : List Int) (t : Int) : Decidable (hevP xs t) := inferInstanceAs (Decidable (_ ∨ _))
def cB (v : Int) : Int := clipS v (-128) 127
def fE0 (xs : List Int) (t : Int) : Int := if hevP xs t then cB (atE xs (-2) - atE xs 1) else 0
def fE (xs : List Int) (t : Int) : Int := cB (fE0 xs t + 3 * (atE xs 0 - atE xs (-1)))
def aE (xs : List Int) (t : Int) : Int := cB (fE xs t + 4) / 8
def bE (xs : List Int) (t : Int) : Int := cB (fE xs t + 3) / 8
def dE (xs : List Int) (t : Int) : Int := (aE xs t + 1) / 2
def narrowL (xs : List Int) (t : Int) : List Int :=
  if hevP xs t then (xs.set (xs.length / 2) (clipS (atE xs 0 - aE xs t) 0 255)).set (xs.length / 2 - 1) (clipS (atE xs (-1) + bE xs t) 0 255)
  else (((xs.set (xs.length / 2) (clipS (atE xs 0 - aE xs t) 0 255)).set (xs.length / 2 - 1) (clipS (atE xs (-1) + bE xs t) 0 255)).set (xs.length / 2 + 1) (clipS (atE xs 1 - dE xs t) 0 255)).set (xs.length / 2 - 2) (clipS (atE xs (-2) + dE xs t) 0 255)
theorem cB_le (v : Int) : -128 ≤ cB v ∧ cB v ≤ 127 := clipS_le (by decide)
theorem n1_ok (lo : Nat) (v : Int) (M : Mem) : Ac P T lo F.deblock_line_narrow_1 [.int .i64 v] M fun r => r = (.int .i64 (cB v), M) := by
  refine Ac.of (Evp.of_eq (fun k => deblock_line_narrow_1.entry k ..) ?_)
  refine Evp.ob (dclip_ok _ _ _ _ _ (by decide)) ?_
  rintro _ rfl
  simp only [ret_int, ret_bool, ret_flt, ret_slc, ret_str, ret_ptr, ret_agg, ret_tup, ob_some, bb_true, bb_false, List.getElem?_cons_zero, List.getElem?_cons_succ, List.length_cons, List.length_nil, Nat.reduceAdd, Nat.reduceLT]
  exact Evp.ret (Run.ret rfl)
theorem shr3 (z : Int) : shrI .i64 z 3 = z / 8 := by rw [shr_eq 3 (by omega)]; rfl
theorem shr1 (z : Int) : shrI .i64 z 1 = z / 2 := by rw [shr_eq 1 (by omega)]; rfl
theorem Buf.in_ {M0 M : Mem} {a : Addr} {cs : List Value} (h : Buf M0 M a cs) : a.block < M.length := by
  obtain ⟨k, h1, h2, h3, h4⟩ := h
  exact (List.getElem?_eq_some_iff.1 h3).1
section
variable {lo : Nat} {A : Option Addr} {c : Nat} {xs : List Int} {M0 : Mem} {a : Addr} {cc b3 b4 : Nat}
theorem n2_ok (hlo : lo ≤ M0.length) (hn : xs.length ≤ 1000) (M : Mem) (hp : Pre M0 M) (zs : List Int) (hz : zs.length = xs.length) (hb : Buf M0 M a (zs.map (Value.int .u8))) (g3 : M[b3]? = some ⟨.fx, [.slice (some a) xs.length cc]⟩) (g4 : M[b4]? = some ⟨.fx, [.slice A xs.length c, .int .i64 ((xs.length / 2 : Nat) : Int)]⟩) (n3 : a.block ≠ b3) (n4 : a.block ≠ b4) (i v : Int) (h0 : 0 ≤ ((xs.length / 2 : Nat) : Int) + i) (h1 : ((xs.length / 2 : Nat) : Int) + i < xs.length) :
    Ac P T lo F.deblock_line_narrow_2 [.int .i64 i, .int .i64 v, .pointer (some ⟨b3, 0, none⟩), .pointer (some ⟨b4, 0, none⟩)] M fun r => ∃ M', r = (.tuple ⟨[]⟩, M') ∧ Pre M0 M' ∧ Buf M0 M' a ((zs.set (((xs.length / 2 : Nat) : Int) + i).toNat (clipS v 0 255)).map (Value.int .u8)) ∧ M'[b3]? = some ⟨.fx, [.slice (some a) xs.length cc]⟩ ∧ M'[b4]? = some ⟨.fx, [.slice A xs.length c, .int .i64 ((xs.length / 2 : Nat) : Int)]⟩ := by
  have l3 := lt_of_get g3
  have l4 := lt_of_get g4
  refine Ac.of (Evp.of_eq (fun k => deblock_line_narrow_2.entry k ..) ?_)
  refine Evp.some (b := ⟨some a, xs.length, cc⟩) (by rw [if_pos l3, fx_ld g3]; rfl) ?_
  refine Evp.some (b := ((xs.length / 2 : Nat) : Int)) (by rw [if_pos (by rw [plus_block]; exact l4), fx_ldp g4]; rfl) ?_
  refine Evp.ob (dclip_ok _ _ _ _ _ (by decide)) ?_
  rintro _ rfl
  simp only [ret_int, ret_bool, ret_flt, ret_slc, ret_str, ret_ptr, ret_agg, ret_tup, ob_some, bb_true, bb_false, List.getElem?_cons_zero, List.getElem?_cons_succ, List.length_cons, List.length_nil, Nat.reduceAdd, Nat.reduceLT]
  have k := clipS_le (v := v) (a := 0) (b := 255) (by decide)
  rw [w64 (x := ((xs.length / 2 : Nat) : Int) + i) (by omega), wu8 k]
  refine Evp.pos (by omega) (Evp.some rfl ?_)
  obtain ⟨M1, s1, s2, s3, s4, s5⟩ := hb.st (lo := lo) (i := (((xs.length / 2 : Nat) : Int) + i).toNat) (vs := [.int .u8 (clipS v 0 255)]) hp hlo (by simp; omega)
  refine Evp.some s1 ?_
  rw [setL_one, set_map] at s2
  exact Evp.ret (Run.ret ⟨M1, rfl, s3, s2, s4 _ _ g3 (fun a' h => by cases h; exact n3), s4 _ _ g4 (fun a' h => by cases h; exact n4)⟩)
end
theorem narrow_ok (lo : Nat) (A : Option Addr) (c : Nat) (xs : List Int) (M : Mem) (lim edge t : Int) (hlo : lo ≤ M.length) (hx : RdI M .u8 A xs) (bx : Bytes xs) (hn : xs.length ≤ 1000) (h2 : 2 * (xs.length / 2) = xs.length) (h4 : 4 ≤ xs.length) :
    Ac P T lo F.deblock_line_narrow [.agg ⟨[.slice A xs.length c, .int .i64 ((xs.length / 2 : Nat) : Int)]⟩, .agg ⟨[.int .i64 lim, .int .i64 edge, .int .i64 t]⟩] M fun r => ∃ a cc M', r = (.slice (some a) xs.length cc, M') ∧ Pre M M' ∧ Buf M M' a ((narrowL xs t).map (Value.int .u8)) := by
  have v1 := atE_le xs bx (-2)
  have v2 := atE_le xs bx (-1)
  have v3 := atE_le xs bx 0
  have v4 := atE_le xs bx 1
  have g0 := push_self M ⟨.fx, [.slice A xs.length c, .int .i64 ((xs.length / 2 : Nat) : Int)]⟩
  have p1 := Pre.app M [⟨.fx, [.slice A xs.length c, .int .i64 ((xs.length / 2 : Nat) : Int)]⟩]
  have l1 := lt_of_get g0
  refine Ac.of (Evp.of_eq (fun k => deblock_line_narrow.entry k ..) ?_)
  generalize (M ++ [⟨.fx, [.slice A xs.length c, .int .i64 ((xs.length / 2 : Nat) : Int)]⟩] : Mem) = M1 at *
  have hx1 := hx.pre p1
  have ldA : (M1.ld ⟨M.length, 0, none⟩).bind Value.slc? = some ⟨A, xs.length, c⟩ := by rw [fx_ld g0]; rfl
  have ldH : (M1.ld (plus ⟨M.length, 0, none⟩ 1)).bind (Value.int? .i64) = some ((xs.length / 2 : Nat) : Int) := by rw [fx_ldp g0]; rfl
  have ret : ∀ (a : Addr) (cc b3 : Nat) (M' : Mem), Pre M M' → Buf M M' a ((narrowL xs t).map (Value.int .u8)) → M'[b3]? = some ⟨.fx, [.slice (some a) xs.length cc]⟩ → Run P T lo F.deblock_line_narrow (deblock_line_narrow.c16383 ⟨b3, 0, none⟩ M') fun r => ∃ a cc M', r = (.slice (some a) xs.length cc, M') ∧ Pre M M' ∧ Buf M M' a ((narrowL xs t).map (Value.int .u8)) := fun a cc b3 M' hp hb g => by
    refine Run.cut (Evp.of_eq (fun k => deblock_line_narrow.p16383 k ..) ?_)
    refine Evp.some (b := ⟨some a, xs.length, cc⟩) (by rw [fx_ld g]; rfl) ?_
    exact Evp.ret (Run.ret ⟨a, cc, M', rfl, hp, hb⟩)
  have fin : ∀ (b : Bool), (b = true ↔ hevP xs t) → Run P T lo F.deblock_line_narrow (deblock_line_narrow.c127 ⟨M.length, 0, none⟩ (atE xs (-2)) (atE xs (-1)) (atE xs 0) (atE xs 1) b (fE0 xs t) M1) fun r => ∃ a cc M', r = (.slice (some a) xs.length cc, M') ∧ Pre M M' ∧ Buf M M' a ((narrowL xs t).map (Value.int .u8)) := fun b hb => by
    have hf0 : -128 ≤ fE0 xs t ∧ fE0 xs t ≤ 127 := by
      unfold fE0; split
      · exact cB_le _
      · omega
    refine Run.cut (Evp.of_eq (fun k => deblock_line_narrow.p127 k ..) ?_)
    rw [w64 (x := atE xs 0 - atE xs (-1)) (by omega), w64 (x := 3 * (atE xs 0 - atE xs (-1))) (by omega), w64 (x := fE0 xs t + 3 * (atE xs 0 - atE xs (-1))) (by omega)]
    refine Evp.ob (n1_ok ..) ?_
    rintro _ rfl
    simp only [ret_int, ret_bool, ret_flt, ret_slc, ret_str, ret_ptr, ret_agg, ret_tup, ob_some, bb_true, bb_false, List.getElem?_cons_zero, List.getElem?_cons_succ, List.length_cons, List.length_nil, Nat.reduceAdd, Nat.reduceLT]
    rw [show cB (fE0 xs t + 3 * (atE xs 0 - atE xs (-1))) = fE xs t from rfl]
    have hf : -128 ≤ fE xs t ∧ fE xs t ≤ 127 := cB_le _
    rw [w64 (x := fE xs t + 4) (by omega), w64 (x := fE xs t + 3) (by omega)]
    refine Evp.ob (n1_ok ..) ?_
    rintro _ rfl
    simp only [ret_int, ret_bool, ret_flt, ret_slc, ret_str, ret_ptr, ret_agg, ret_tup, ob_some, bb_true, bb_false, List.getElem?_cons_zero, List.getElem?_cons_succ, List.length_cons, List.length_nil, Nat.reduceAdd, Nat.reduceLT]
    refine Evp.some ldA ?_
    refine Evp.ob (clone_ok lo A c xs M1 hx1 (by omega) (by omega) (Nat.le_trans hlo p1.len)) ?_
    rintro _ ⟨a, cc, M2, rfl, p2, hcc, hbuf⟩
    simp only [ret_int, ret_bool, ret_flt, ret_slc, ret_str, ret_ptr, ret_agg, ret_tup, ob_some, bb_true, bb_false, List.getElem?_cons_zero, List.getElem?_cons_succ, List.length_cons, List.length_nil, Nat.reduceAdd, Nat.reduceLT]
    have ha : -16 ≤ aE xs t ∧ aE xs t ≤ 16 := by have := cB_le (fE xs t + 4); unfold aE; omega
    have hbb : -16 ≤ bE xs t ∧ bE xs t ≤ 16 := by have := cB_le (fE xs t + 3); unfold bE; omega
    have hd : -16 ≤ dE xs t ∧ dE xs t ≤ 16 := by unfold dE; omega
    refine Evp.some (push_st (us := [.slice none 0 0]) (vs := [.slice (some a) xs.length cc]) (Nat.le_trans hlo (p1.trans p2).len) rfl) ?_
    have nw := hbuf.new
    have inn := hbuf.in_
    have g3 := push_self M2 ⟨.fx, [.slice (some a) xs.length cc]⟩
    have g4 := get_push (x := ⟨.fx, [.slice (some a) xs.length cc]⟩) (p2 _ _ g0)
    have p3 := Pre.app M2 [⟨.fx, [.slice (some a) xs.length cc]⟩]
    have hb3 := (hbuf.floor (M0 := M) p1.len).pre p3
    have q3 := (p1.trans p2).trans p3
    rw [shr3, show cB (fE xs t + 4) / 8 = aE xs t from rfl, w64 (x := atE xs 0 - aE xs t) (by omega)]
    generalize (M2 ++ [⟨.fx, [.slice (some a) xs.length cc]⟩] : Mem) = M3 at *
    refine Evp.ob (n2_ok hlo hn M3 q3 xs rfl hb3 g3 g4 (by omega) (by omega) 0 (atE xs 0 - aE xs t) (by omega) (by omega)) ?_
    rintro _ ⟨M4, rfl, q4, b4, g3, g4⟩
    simp only [ret_int, ret_bool, ret_flt, ret_slc, ret_str, ret_ptr, ret_agg, ret_tup, ob_some, bb_true, bb_false, List.getElem?_cons_zero, List.getElem?_cons_succ, List.length_cons, List.length_nil, Nat.reduceAdd, Nat.reduceLT]
    refine Evp.ob (n1_ok ..) ?_
    rintro _ rfl
    simp only [ret_int, ret_bool, ret_flt, ret_slc, ret_str, ret_ptr, ret_agg, ret_tup, ob_some, bb_true, bb_false, List.getElem?_cons_zero, List.getElem?_cons_succ, List.length_cons, List.length_nil, Nat.reduceAdd, Nat.reduceLT]
    rw [shr3, show cB (fE xs t + 3) / 8 = bE xs t from rfl, w64 (x := atE xs (-1) + bE xs t) (by omega)]
    refine Evp.ob (n2_ok hlo hn M4 q4 _ (by simp) b4 g3 g4 (by omega) (by omega) (-1) (atE xs (-1) + bE xs t) (by omega) (by omega)) ?_
    rintro _ ⟨M5, rfl, q5, b5, g3, g4⟩
    simp only [ret_int, ret_bool, ret_flt, ret_slc, ret_str, ret_ptr, ret_agg, ret_tup, ob_some, bb_true, bb_false, List.getElem?_cons_zero, List.getElem?_cons_succ, List.length_cons, List.length_nil, Nat.reduceAdd, Nat.reduceLT]
    have i0 : (((xs.length / 2 : Nat) : Int) + 0).toNat = xs.length / 2 := by omega
    have i1 : (((xs.length / 2 : Nat) : Int) + -1).toNat = xs.length / 2 - 1 := by omega
    rw [i0, i1] at b5
    refine Evp.nb (fun hf => ?_) fun hf => ?_
    · have hne : ¬ hevP xs t := fun h => by rw [hb.2 h] at hf; exact absurd hf (by decide)
      rw [w64 (x := aE xs t + 1) (by omega), shr1, show (aE xs t + 1) / 2 = dE xs t from rfl, w64 (x := atE xs 1 - dE xs t) (by omega), w64 (x := atE xs (-2) + dE xs t) (by omega)]
      refine Evp.ob (n2_ok hlo hn M5 q5 _ (by simp) b5 g3 g4 (by omega) (by omega) 1 (atE xs 1 - dE xs t) (by omega) (by omega)) ?_
      rintro _ ⟨M6, rfl, q6, b6, g3, g4⟩
      simp only [ret_int, ret_bool, ret_flt, ret_slc, ret_str, ret_ptr, ret_agg, ret_tup, ob_some, bb_true, bb_false, List.getElem?_cons_zero, List.getElem?_cons_succ, List.length_cons, List.length_nil, Nat.reduceAdd, Nat.reduceLT]
      refine Evp.ob (n2_ok hlo hn M6 q6 _ (by simp) b6 g3 g4 (by omega) (by omega) (-2) (atE xs (-2) + dE xs t) (by omega) (by omega)) ?_
      rintro _ ⟨M7, rfl, q7, b7, g3, g4⟩
      simp only [ret_int, ret_bool, ret_flt, ret_slc, ret_str, ret_ptr, ret_agg, ret_tup, ob_some, bb_true, bb_false, List.getElem?_cons_zero, List.getElem?_cons_succ, List.length_cons, List.length_nil, Nat.reduceAdd, Nat.reduceLT]
      have i2 : (((xs.length / 2 : Nat) : Int) + 1).toNat = xs.length / 2 + 1 := by omega
      have i3 : (((xs.length / 2 : Nat) : Int) + -2).toNat = xs.length / 2 - 2 := by omega
      rw [i2, i3] at b7
      exact Evp.ret (ret a cc _ M7 q7 (by unfold narrowL; rw [if_neg hne]; exact b7) g3)
    · exact Evp.ret (ret a cc _ M5 q5 (by unfold narrowL; rw [if_pos (hb.1 hf)]; exact b5) g3)
  have cF : hevP xs t → cB (atE xs (-2) - atE xs 1) = fE0 xs t := fun h => by unfold fE0; rw [if_pos h]
  have lA : (if M.length < M1.length then M1.ld ⟨M.length, 0, none⟩ else none).bind Value.slc? = some ⟨A, xs.length, c⟩ := by rw [if_pos l1]; exact ldA
  have lH : (if M.length < M1.length then M1.ld (plus ⟨M.length, 0, none⟩ 1) else none).bind (Value.int? .i64) = some ((xs.length / 2 : Nat) : Int) := by rw [if_pos l1]; exact ldH
  refine Evp.some ldA (Evp.some ldH ?_)
  refine Evp.ob (p_ok _ _ _ _ _ hx1 hn 1 (by omega) (by omega)) ?_
  rintro _ rfl
  simp only [ret_int, ret_bool, ret_flt, ret_slc, ret_str, ret_ptr, ret_agg, ret_tup, ob_some, bb_true, bb_false, List.getElem?_cons_zero, List.getElem?_cons_succ, List.length_cons, List.length_nil, Nat.reduceAdd, Nat.reduceLT]
  refine Evp.some lA (Evp.some lH ?_)
  refine Evp.ob (p_ok _ _ _ _ _ hx1 hn 0 (by omega) (by omega)) ?_
  rintro _ rfl
  simp only [ret_int, ret_bool, ret_flt, ret_slc, ret_str, ret_ptr, ret_agg, ret_tup, ob_some, bb_true, bb_false, List.getElem?_cons_zero, List.getElem?_cons_succ, List.length_cons, List.length_nil, Nat.reduceAdd, Nat.reduceLT]
  refine Evp.some lA (Evp.some lH ?_)
  refine Evp.ob (q_ok _ _ _ _ _ hx1 hn 0 (by omega) (by omega)) ?_
  rintro _ rfl
  simp only [ret_int, ret_bool, ret_flt, ret_slc, ret_str, ret_ptr, ret_agg, ret_tup, ob_some, bb_true, bb_false, List.getElem?_cons_zero, List.getElem?_cons_succ, List.length_cons, List.length_nil, Nat.reduceAdd, Nat.reduceLT]
  refine Evp.some lA (Evp.some lH ?_)
  refine Evp.ob (q_ok _ _ _ _ _ hx1 hn 1 (by omega) (by omega)) ?_
  rintro _ rfl
  simp only [ret_int, ret_bool, ret_flt, ret_slc, ret_str, ret_ptr, ret_agg, ret_tup, ob_some, bb_true, bb_false, List.getElem?_cons_zero, List.getElem?_cons_succ, List.length_cons, List.length_nil, Nat.reduceAdd, Nat.reduceLT]
  refine Evp.some ldA (Evp.some ldH ?_)
  refine Evp.ob (p_ok _ _ _ _ _ hx1 hn 1 (by omega) (by omega)) ?_
  rintro _ rfl
  simp only [ret_int, ret_bool, ret_flt, ret_slc, ret_str, ret_ptr, ret_agg, ret_tup, ob_some, bb_true, bb_false, List.getElem?_cons_zero, List.getElem?_cons_succ, List.length_cons, List.length_nil, Nat.reduceAdd, Nat.reduceLT]
  refine Evp.some lA (Evp.some lH ?_)
  refine Evp.ob (p_ok _ _ _ _ _ hx1 hn 0 (by omega) (by omega)) ?_
  rintro _ rfl
  simp only [ret_int, ret_bool, ret_flt, ret_slc, ret_str, ret_ptr, ret_agg, ret_tup, ob_some, bb_true, bb_false, List.getElem?_cons_zero, List.getElem?_cons_succ, List.length_cons, List.length_nil, Nat.reduceAdd, Nat.reduceLT]
  rw [show (-1 - 1 : Int) = -2 by omega, show (-1 - 0 : Int) = -1 by omega]
  refine Evp.ob (far_ok _ _ _ _ v1 v2) ?_
  rintro _ rfl
  simp only [ret_int, ret_bool, ret_flt, ret_slc, ret_str, ret_ptr, ret_agg, ret_tup, ob_some, bb_true, bb_false, List.getElem?_cons_zero, List.getElem?_cons_succ, List.length_cons, List.length_nil, Nat.reduceAdd, Nat.reduceLT]
  rw [w64 (x := atE xs (-2)) (by omega), w64 (x := atE xs (-1)) (by omega), w64 (x := atE xs 0) (by omega), w64 (x := atE xs 1) (by omega), w64 (x := atE xs (-2) - atE xs 1) (by omega), show absS (atE xs (-2) - atE xs (-1)) = farE xs (-2) (-1) from rfl]
  refine Evp.dec (fun h => ?_) fun h1 => ?_
  · refine Evp.ob (n1_ok ..) ?_
    rintro _ rfl
    simp only [ret_int, ret_bool, ret_flt, ret_slc, ret_str, ret_ptr, ret_agg, ret_tup, ob_some, bb_true, bb_false, List.getElem?_cons_zero, List.getElem?_cons_succ, List.length_cons, List.length_nil, Nat.reduceAdd, Nat.reduceLT]
    rw [cF (.inl h)]
    exact Evp.ret (fin true ⟨fun _ => .inl h, fun _ => rfl⟩)
  · refine Evp.some ldA (Evp.some ldH ?_)
    refine Evp.ob (q_ok _ _ _ _ _ hx1 hn 1 (by omega) (by omega)) ?_
    rintro _ rfl
    simp only [ret_int, ret_bool, ret_flt, ret_slc, ret_str, ret_ptr, ret_agg, ret_tup, ob_some, bb_true, bb_false, List.getElem?_cons_zero, List.getElem?_cons_succ, List.length_cons, List.length_nil, Nat.reduceAdd, Nat.reduceLT]
    refine Evp.some lA (Evp.some lH ?_)
    refine Evp.ob (q_ok _ _ _ _ _ hx1 hn 0 (by omega) (by omega)) ?_
    rintro _ rfl
    simp only [ret_int, ret_bool, ret_flt, ret_slc, ret_str, ret_ptr, ret_agg, ret_tup, ob_some, bb_true, bb_false, List.getElem?_cons_zero, List.getElem?_cons_succ, List.length_cons, List.length_nil, Nat.reduceAdd, Nat.reduceLT]
    refine Evp.ob (far_ok _ _ _ _ v4 v3) ?_
    rintro _ rfl
    simp only [ret_int, ret_bool, ret_flt, ret_slc, ret_str, ret_ptr, ret_agg, ret_tup, ob_some, bb_true, bb_false, List.getElem?_cons_zero, List.getElem?_cons_succ, List.length_cons, List.length_nil, Nat.reduceAdd, Nat.reduceLT]
    rw [show absS (atE xs 1 - atE xs 0) = farE xs 1 0 from rfl]
    have iffd : decide (farE xs 1 0 > t) = true ↔ hevP xs t := ⟨fun h => .inr (of_decide_eq_true h), fun h => decide_eq_true (by rcases h with h | h; exact absurd h h1; exact h)⟩
    refine Evp.dec (fun h => ?_) fun h => ?_
    · refine Evp.ob (n1_ok ..) ?_
      rintro _ rfl
      simp only [ret_int, ret_bool, ret_flt, ret_slc, ret_str, ret_ptr, ret_agg, ret_tup, ob_some, bb_true, bb_false, List.getElem?_cons_zero, List.getElem?_cons_succ, List.length_cons, List.length_nil, Nat.reduceAdd, Nat.reduceLT]
      rw [cF (.inr h)]
      exact Evp.ret (fin _ iffd)
    · have h0 : fE0 xs t = 0 := by unfold fE0; rw [if_neg (fun e => by rcases e with e | e; exact h1 e; exact h e)]
      have := fin _ iffd
      rw [h0] at this
      exact Evp.ret this
def edgeOf (level sharp : Int) : Int := 2 * (level + 2) + limitS level sharp
def passL (xs : List Int) (level : Int) : List Int :=
  if xs.length = 6 ∧ flatP xs 2 then wideL xs 2 1 3 (2 * 2) else if xs.length = 14 ∧ flatP xs 6 then wideL xs 6 1 4 (2 * 6) else if 8 ≤ xs.length ∧ flatP xs 3 then wideL xs 3 0 3 (2 * 3) else narrowL xs (level / 16)
def edgeL (xs : List Int) (level sharp : Int) : List Int := if level ≠ 0 ∧ smoothE xs (limitS level sharp) (edgeOf level sharp) then passL xs level else xs
section
variable (lo : Nat) (A : Option Addr) (c : Nat) (xs : List Int) (M : Mem) (level sharp : Int)
theorem filter_ok (hlo : lo ≤ M.length) (hx : RdI M .u8 A xs) (bx : Bytes xs) (hlen : xs.length = 4 ∨ xs.length = 6 ∨ xs.length = 8 ∨ xs.length = 14) (lim edge : Int) :
    Ac P T lo F.deblock_line_filter [.agg ⟨[.slice A xs.length c, .int .i64 ((xs.length / 2 : Nat) : Int)]⟩, .agg ⟨[.int .i64 lim, .int .i64 edge, .int .i64 (level / 16)]⟩] M fun r => ∃ a cc M', r = (.slice (some a) xs.length cc, M') ∧ Pre M M' ∧ Buf M M' a ((if smoothE xs lim edge then passL xs level else xs).map (Value.int .u8)) := by
  refine Ac.of (Evp.of_eq (fun k => deblock_line_filter.entry k ..) ?_)
  refine Evp.ob (rough_ok _ _ _ _ _ hx bx (by omega) (by omega) lim edge (level / 16)) ?_
  rintro _ rfl
  simp only [ret_int, ret_bool, ret_flt, ret_slc, ret_str, ret_ptr, ret_agg, ret_tup, ob_some, bb_true, bb_false, List.getElem?_cons_zero, List.getElem?_cons_succ, List.length_cons, List.length_nil, Nat.reduceAdd, Nat.reduceLT]
  refine Evp.dec (fun h => ?_) fun h => ?_
  · refine Evp.ob (clone_ok lo A c xs M hx (by omega) (by omega) hlo) ?_
    rintro _ ⟨a, cc, M1, rfl, p1, hcc, hb⟩
    simp only [ret_int, ret_bool, ret_flt, ret_slc, ret_str, ret_ptr, ret_agg, ret_tup, ob_some, bb_true, bb_false, List.getElem?_cons_zero, List.getElem?_cons_succ, List.length_cons, List.length_nil, Nat.reduceAdd, Nat.reduceLT]
    exact Evp.ret (Run.ret ⟨a, cc, M1, rfl, p1, by rw [if_neg h]; exact hb⟩)
  have h := Decidable.not_not.1 h
  rw [if_pos h]
  have nar : passL xs level = narrowL xs (level / 16) → Evp (fun k => ob (acall P T k lo F.deblock_line_narrow [.agg ⟨[.slice A xs.length c, .int .i64 ((xs.length / 2 : Nat) : Int)]⟩, .agg ⟨[.int .i64 lim, .int .i64 edge, .int .i64 (level / 16)]⟩] M) fun r29 => ob ((some r29.1).bind Value.slc?) fun s30 => some (.ret (.slice s30.a s30.n s30.c) r29.2)) fun out => Run P T lo F.deblock_line_filter out fun r => ∃ a cc M', r = (.slice (some a) xs.length cc, M') ∧ Pre M M' ∧ Buf M M' a ((passL xs level).map (Value.int .u8)) := fun e => by
    rw [e]
    refine Evp.ob (narrow_ok lo A c xs M lim edge (level / 16) hlo hx bx (by omega) (by omega) (by omega)) ?_
    rintro _ ⟨a, cc, M1, rfl, p1, hb⟩
    simp only [ret_int, ret_bool, ret_flt, ret_slc, ret_str, ret_ptr, ret_agg, ret_tup, ob_some, bb_true, bb_false, List.getElem?_cons_zero, List.getElem?_cons_succ, List.length_cons, List.length_nil, Nat.reduceAdd, Nat.reduceLT]
    exact Evp.ret (Run.ret ⟨a, cc, M1, rfl, p1, hb⟩)
  have wid : ∀ (n m : Nat) (sh : Int), CaseW n m sh → n + 1 ≤ xs.length / 2 → passL xs level = wideL xs n m sh (2 * n) → Evp (fun k => ob (acall P T k lo F.deblock_line_wide [.agg ⟨[.slice A xs.length c, .int .i64 ((xs.length / 2 : Nat) : Int)]⟩, .int .i64 n, .int .i64 m, .int .i64 sh] M) fun r29 => ob ((some r29.1).bind Value.slc?) fun s30 => some (.ret (.slice s30.a s30.n s30.c) r29.2)) fun out => Run P T lo F.deblock_line_filter out fun r => ∃ a cc M', r = (.slice (some a) xs.length cc, M') ∧ Pre M M' ∧ Buf M M' a ((passL xs level).map (Value.int .u8)) := fun n m sh hc hnn e => by
    rw [e]
    refine Evp.ob (wide_ok hlo hx bx (by omega) (by omega) hnn hc) ?_
    rintro _ ⟨a, cc, M1, rfl, p1, hb⟩
    simp only [ret_int, ret_bool, ret_flt, ret_slc, ret_str, ret_ptr, ret_agg, ret_tup, ob_some, bb_true, bb_false, List.getElem?_cons_zero, List.getElem?_cons_succ, List.length_cons, List.length_nil, Nat.reduceAdd, Nat.reduceLT]
    exact Evp.ret (Run.ret ⟨a, cc, M1, rfl, p1, hb⟩)
  have n6 : xs.length ≠ 6 → xs.length ≠ 14 ∨ ¬ flatP xs 6 → (8 ≤ xs.length → ¬ flatP xs 3) → passL xs level = narrowL xs (level / 16) := fun a b c => by
    unfold passL
    rw [if_neg (fun e => a e.1), if_neg (fun e => by rcases b with b | b; exact b e.1; exact b e.2), if_neg (fun e => c e.1 e.2)]
  refine Evp.eqb (fun e6 => ?_) fun e6 => ?_
  · refine Evp.ob (flat_ok _ _ _ _ _ hx bx (by omega) 2 (by omega)) ?_
    rintro _ rfl
    simp only [ret_int, ret_bool, ret_flt, ret_slc, ret_str, ret_ptr, ret_agg, ret_tup, ob_some, bb_true, bb_false, List.getElem?_cons_zero, List.getElem?_cons_succ, List.length_cons, List.length_nil, Nat.reduceAdd, Nat.reduceLT]
    refine Evp.dec (fun hf => wid 2 1 3 (.inl ⟨rfl, rfl, rfl⟩) (by omega) (by unfold passL; rw [if_pos ⟨by omega, hf⟩])) fun hf => ?_
    refine Evp.eqb (fun e14 => absurd e14 (by omega)) fun e14 => ?_
    refine Evp.dec (fun h8 => absurd h8 (by omega)) fun h8 => ?_
    exact nar (by unfold passL; rw [if_neg (fun e => hf e.2), if_neg (by omega), if_neg (by omega)])
  · refine Evp.eqb (fun e14 => ?_) fun e14 => ?_
    · refine Evp.ob (flat_ok _ _ _ _ _ hx bx (by omega) 6 (by omega)) ?_
      rintro _ rfl
      simp only [ret_int, ret_bool, ret_flt, ret_slc, ret_str, ret_ptr, ret_agg, ret_tup, ob_some, bb_true, bb_false, List.getElem?_cons_zero, List.getElem?_cons_succ, List.length_cons, List.length_nil, Nat.reduceAdd, Nat.reduceLT]
      refine Evp.dec (fun hf => wid 6 1 4 (.inr (.inr ⟨rfl, rfl, rfl⟩)) (by omega) (by unfold passL; rw [if_neg (by omega), if_pos ⟨by omega, hf⟩])) fun hf => ?_
      refine Evp.dec (fun h8 => ?_) fun h8 => absurd h8 (by omega)
      refine Evp.ob (flat_ok _ _ _ _ _ hx bx (by omega) 3 (by omega)) ?_
      rintro _ rfl
      simp only [ret_int, ret_bool, ret_flt, ret_slc, ret_str, ret_ptr, ret_agg, ret_tup, ob_some, bb_true, bb_false, List.getElem?_cons_zero, List.getElem?_cons_succ, List.length_cons, List.length_nil, Nat.reduceAdd, Nat.reduceLT]
      refine Evp.dec (fun hf3 => wid 3 0 3 (.inr (.inl ⟨rfl, rfl, rfl⟩)) (by omega) (by unfold passL; rw [if_neg (by omega), if_neg (fun e => hf e.2), if_pos ⟨by omega, hf3⟩])) fun hf3 => ?_
      exact nar (n6 (by omega) (.inr hf) fun _ => hf3)
    · refine Evp.dec (fun h8 => ?_) fun h8 => ?_
      · refine Evp.ob (flat_ok _ _ _ _ _ hx bx (by omega) 3 (by omega)) ?_
        rintro _ rfl
        simp only [ret_int, ret_bool, ret_flt, ret_slc, ret_str, ret_ptr, ret_agg, ret_tup, ob_some, bb_true, bb_false, List.getElem?_cons_zero, List.getElem?_cons_succ, List.length_cons, List.length_nil, Nat.reduceAdd, Nat.reduceLT]
        refine Evp.dec (fun hf3 => wid 3 0 3 (.inr (.inl ⟨rfl, rfl, rfl⟩)) (by omega) (by unfold passL; rw [if_neg (by omega), if_neg (by omega), if_pos ⟨by omega, hf3⟩])) fun hf3 => ?_
        exact nar (n6 (by omega) (.inl (by omega)) fun _ => hf3)
      · exact nar (n6 (by omega) (.inl (by omega)) fun h => absurd h (by omega))
end
theorem edgeL_len (xs : List Int) (level sharp : Int) : (edgeL xs level sharp).length = xs.length := by
  unfold edgeL passL narrowL
  repeat' split
  all_goals simp [wideL_len]
theorem sizes_ok (lo : Nat) (w h : Int) (M : Mem) : Ac P T lo F.plane_sizes [.int .i64 w, .int .i64 h] M fun r => r = (.bool (decide (1 ≤ w ∧ w ≤ 512 ∧ 1 ≤ h ∧ h ≤ 512)), M) := by
  refine Ac.of (Evp.of_eq (fun k => plane_sizes.entry k ..) ?_)
  refine Evp.dec (fun h1 => ?_) fun h1 => ?_
  · refine Evp.dec (fun h2 => ?_) fun h2 => ?_
    · refine Evp.dec (fun h3 => ?_) fun h3 => ?_
      · refine Evp.ret (Run.ret ?_)
        congr 2
        exact decide_eq_decide.2 (by omega)
      · refine Evp.ret (Run.ret ?_)
        congr 2
        simp; omega
    · refine Evp.ret (Run.ret ?_)
      congr 2
      simp; omega
  · refine Evp.ret (Run.ret ?_)
    congr 2
    simp; omega
def checkS (w h n : Int) : Int := if 1 ≤ w ∧ w ≤ 512 ∧ 1 ≤ h ∧ h ≤ 512 ∧ n = w * h then 0 else 2
theorem area {w h : Int} (h1 : 1 ≤ w ∧ w ≤ 512 ∧ 1 ≤ h ∧ h ≤ 512) : 1 ≤ w * h ∧ w * h ≤ 262144 := by
  have hm : w * h ≤ 512 * 512 := Int.mul_le_mul h1.2.1 h1.2.2.2 (by omega) (by omega)
  have hm0 : 1 * 1 ≤ w * h := Int.mul_le_mul h1.1 h1.2.2.1 (by omega) (by omega)
  omega
theorem check_ok (lo : Nat) (w h : Int) (A : Option Addr) (n c : Nat) (M : Mem) : Ac P T lo F.plane_Check [.agg ⟨[.int .i64 w, .int .i64 h, .slice A n c]⟩] M fun r => r = (.int .i64 (checkS w h n), M) := by
  refine Ac.of (Evp.of_eq (fun k => plane_Check.entry k ..) ?_)
  refine Evp.ob (sizes_ok ..) ?_
  rintro _ rfl
  simp only [ret_int, ret_bool, ret_flt, ret_slc, ret_str, ret_ptr, ret_agg, ret_tup, ob_some, bb_true, bb_false, List.getElem?_cons_zero, List.getElem?_cons_succ, List.length_cons, List.length_nil, Nat.reduceAdd, Nat.reduceLT]
  refine Evp.nb (fun h1 => ?_) fun h1 => ?_
  · refine Evp.ret (Run.ret ?_)
    have := of_decide_eq_false h1
    unfold checkS
    rw [if_neg (by omega)]
  · have h1 := of_decide_eq_true h1
    have hm := area h1
    rw [w64 (by omega)]
    refine Evp.neb (fun h2 => ?_) fun h2 => ?_
    · refine Evp.ret (Run.ret ?_)
      unfold checkS
      rw [if_neg (by omega)]
    · refine Evp.ret (Run.ret ?_)
      unfold checkS
      rw [if_pos (by omega)]
theorem checkS_len' {w h n : Int} (h0 : checkS w h n = 0) : 1 ≤ w ∧ w ≤ 512 ∧ 1 ≤ h ∧ h ≤ 512 ∧ n = w * h := by
  unfold checkS at h0
  split at h0
  · assumption
  · omega
def TxP (t : Int) : Prop := t = 4 ∨ t = 8 ∨ t = 16 ∨ t = 32 ∨ t = 64
instance (t : Int) : Decidable (TxP t) := inferInstanceAs (Decidable (_ ∨ _))
abbrev sizesL : List Int := [4, 8, 16, 32, 64]
theorem containsS_ok (lo : Nat) (v : Int) (M : Mem) (A : Option Addr) (hx : RdI M .u8 A sizesL) : Ac P T lo F.slices_Contains__uint8_uint8 [.slice A 5 5, .int .u8 v] M fun r => r = (.bool (decide (TxP v)), M) := by
  have idx : Ac P T lo F.slices_Index__uint8_uint8 [.slice A 5 5, .int .u8 v] M fun r => ∃ z : Int, r = (.int .i64 z, M) ∧ (z ≥ 0 ↔ TxP v) := by
    unfold TxP
    refine Ac.of (Evp.of_eq (fun k => slices_Index__uint8_uint8.entry k ..) ?_)
    refine Evp.ret ?_
    refine Run.cut (Evp.of_eq (fun k => slices_Index__uint8_uint8.p52 k ..) ?_)
    refine Evp.tt rfl (Evp.pos (by decide) (Evp.ldI (i := 0) hx (by decide) fun _ _ => ?_))
    refine Evp.eqb (fun h => Evp.ret (Run.ret ⟨_, rfl, by simp [h]⟩)) fun h0 => ?_
    rw [show IntKind.i64.wrap (0 + 1) = 1 from by decide]
    refine Evp.ret ?_
    refine Run.cut (Evp.of_eq (fun k => slices_Index__uint8_uint8.p52 k ..) ?_)
    refine Evp.tt rfl (Evp.pos (by decide) (Evp.ldI (i := 1) hx (by decide) fun _ _ => ?_))
    refine Evp.eqb (fun h => Evp.ret (Run.ret ⟨_, rfl, by simp [h]⟩)) fun h1 => ?_
    rw [show IntKind.i64.wrap (1 + 1) = 2 from by decide]
    refine Evp.ret ?_
    refine Run.cut (Evp.of_eq (fun k => slices_Index__uint8_uint8.p52 k ..) ?_)
    refine Evp.tt rfl (Evp.pos (by decide) (Evp.ldI (i := 2) hx (by decide) fun _ _ => ?_))
    refine Evp.eqb (fun h => Evp.ret (Run.ret ⟨_, rfl, by simp [h]⟩)) fun h2 => ?_
    rw [show IntKind.i64.wrap (2 + 1) = 3 from by decide]
    refine Evp.ret ?_
    refine Run.cut (Evp.of_eq (fun k => slices_Index__uint8_uint8.p52 k ..) ?_)
    refine Evp.tt rfl (Evp.pos (by decide) (Evp.ldI (i := 3) hx (by decide) fun _ _ => ?_))
    refine Evp.eqb (fun h => Evp.ret (Run.ret ⟨_, rfl, by simp [h]⟩)) fun h3 => ?_
    rw [show IntKind.i64.wrap (3 + 1) = 4 from by decide]
    refine Evp.ret ?_
    refine Run.cut (Evp.of_eq (fun k => slices_Index__uint8_uint8.p52 k ..) ?_)
    refine Evp.tt rfl (Evp.pos (by decide) (Evp.ldI (i := 4) hx (by decide) fun _ _ => ?_))
    refine Evp.eqb (fun h => Evp.ret (Run.ret ⟨_, rfl, by simp [h]⟩)) fun h4 => ?_
    rw [show IntKind.i64.wrap (4 + 1) = 5 from by decide]
    refine Evp.ret ?_
    refine Run.cut (Evp.of_eq (fun k => slices_Index__uint8_uint8.p52 k ..) ?_)
    refine Evp.ff rfl (Evp.ret (Run.ret ⟨-1, rfl, ?_⟩))
    have e0 : sizesL.getD 0 0 = 4 := rfl
    have e1 : sizesL.getD 1 0 = 8 := rfl
    have e2 : sizesL.getD 2 0 = 16 := rfl
    have e3 : sizesL.getD 3 0 = 32 := rfl
    have e4 : sizesL.getD 4 0 = 64 := rfl
    omega
  refine Ac.of (Evp.of_eq (fun k => slices_Contains__uint8_uint8.entry k ..) ?_)
  refine Evp.ob idx ?_
  rintro _ ⟨z, rfl, hz⟩
  simp only [ret_int, ret_bool, ret_flt, ret_slc, ret_str, ret_ptr, ret_agg, ret_tup, ob_some, bb_true, bb_false, List.getElem?_cons_zero, List.getElem?_cons_succ, List.length_cons, List.length_nil, Nat.reduceAdd, Nat.reduceLT]
  refine Evp.ret (Run.ret ?_)
  congr 2
  exact decide_eq_decide.2 hz
theorem mayfun_ok (lo : Nat) (v : Int) (M : Mem) (A : Option Addr) (b : Addr) (hx : RdI M .u8 A sizesL) (hb : M.ld b = some (.slice A 5 5)) : Ac P T lo F.deblock_may_1 [.int .u8 v, .pointer (some b)] M fun r => r = (.bool (!decide (TxP v)), M) := by
  refine Ac.of (Evp.of_eq (fun k => deblock_may_1.entry k ..) ?_)
  refine Evp.some (b := ⟨A, 5, 5⟩) (by rw [hb]; rfl) ?_
  refine Evp.ob (containsS_ok lo v M A hx) ?_
  rintro _ rfl
  simp only [ret_int, ret_bool, ret_flt, ret_slc, ret_str, ret_ptr, ret_agg, ret_tup, ob_some, bb_true, bb_false, List.getElem?_cons_zero, List.getElem?_cons_succ, List.length_cons, List.length_nil, Nat.reduceAdd, Nat.reduceLT]
  exact Evp.ret (Run.ret rfl)
theorem getD_mem {xs : List Int} {i : Nat} (h : i < xs.length) : xs.getD i 0 ∈ xs := by
  rw [List.getD_eq_getElem?_getD, List.getElem?_eq_getElem h]; exact List.getElem_mem h
section
variable (lo : Nat) (A S : Option Addr) (c : Nat) (tx : List Int) (b : Addr) (M : Mem) (hx : RdI M .u8 A tx) (hs : RdI M .u8 S sizesL) (hb : M.ld b = some (.slice S 5 5)) (hn : tx.length ≤ 140737488351232)
include hx hs hb hn
theorem indexT_loop : ∀ (q i : Nat), tx.length - i = q → i ≤ tx.length → (∀ j, j < i → TxP (tx.getD j 0)) → Run P T lo F.slices_IndexFunc__uint8_uint8 (slices_IndexFunc__uint8_uint8.c52 A tx.length c (.func (.func F.deblock_may_1) ⟨[]⟩ ⟨[.pointer (some b)]⟩) tx.length i M) fun r => ∃ z : Int, r = (.int .i64 z, M) ∧ (z ≥ 0 ↔ ∃ t ∈ tx, ¬ TxP t) := by
  intro q
  induction q with
  | zero =>
    intro i hq hi hj
    refine Run.cut (Evp.of_eq (fun k => slices_IndexFunc__uint8_uint8.p52 k ..) ?_)
    refine Evp.dec (fun h => absurd h (by omega)) fun _ => ?_
    refine Evp.ret (Run.ret ⟨-1, rfl, ⟨fun e => absurd e (by decide), ?_⟩⟩)
    rintro ⟨u, hu, hn⟩
    obtain ⟨j, hj', rfl⟩ := List.mem_iff_getElem.1 hu
    have := hj j (by omega)
    rw [List.getD_eq_getElem?_getD, List.getElem?_eq_getElem hj'] at this
    exact absurd this hn
  | succ q ih =>
    intro i hq hi hj
    refine Run.cut (Evp.of_eq (fun k => slices_IndexFunc__uint8_uint8.p52 k ..) ?_)
    refine Evp.dec (fun _ => ?_) fun h => absurd h (by omega)
    refine Evp.pos (by omega) ?_
    simp only [Int.toNat_natCast]
    refine Evp.ldI hx (by omega) fun _ _ => ?_
    refine Evp.some (b := (F.deblock_may_1, [], [.pointer (some b)])) rfl ?_
    refine Evp.ob (mayfun_ok lo (tx.getD i 0) M S b hs hb) ?_
    rintro _ rfl
    simp only [ret_int, ret_bool, ret_flt, ret_slc, ret_str, ret_ptr, ret_agg, ret_tup, ob_some, bb_true, bb_false, List.getElem?_cons_zero, List.getElem?_cons_succ, List.length_cons, List.length_nil, Nat.reduceAdd, Nat.reduceLT]
    refine Evp.nb (fun g => Evp.ret (Run.ret ⟨_, rfl, ⟨fun _ => ⟨_, getD_mem (show i < tx.length by omega), of_decide_eq_false g⟩, fun _ => by omega⟩⟩)) fun g => ?_
    rw [w64 (by omega)]
    refine Evp.ret (ih (i + 1) (by omega) (by omega) fun j hj' => ?_)
    by_cases hji : j = i
    · rw [hji]; exact of_decide_eq_true g
    · exact hj j (by omega)
theorem containsT_ok : Ac P T lo F.slices_ContainsFunc__uint8_uint8 [.slice A tx.length c, .func (.func F.deblock_may_1) ⟨[]⟩ ⟨[.pointer (some b)]⟩] M fun r => ∃ z : Bool, r = (.bool z, M) ∧ (z = true ↔ ∃ t ∈ tx, ¬ TxP t) := by
  refine Ac.of (Evp.of_eq (fun k => slices_ContainsFunc__uint8_uint8.entry k ..) ?_)
  have idx : Ac P T lo F.slices_IndexFunc__uint8_uint8 [.slice A tx.length c, .func (.func F.deblock_may_1) ⟨[]⟩ ⟨[.pointer (some b)]⟩] M fun r => ∃ z : Int, r = (.int .i64 z, M) ∧ (z ≥ 0 ↔ ∃ t ∈ tx, ¬ TxP t) := by
    refine Ac.of (Evp.of_eq (fun k => slices_IndexFunc__uint8_uint8.entry k ..) ?_)
    exact Evp.ret (indexT_loop lo A S c tx b M hx hs hb hn _ 0 rfl (by omega) fun j hj => absurd hj (by omega))
  refine Evp.ob idx ?_
  rintro _ ⟨z, rfl, hz⟩
  simp only [ret_int, ret_bool, ret_flt, ret_slc, ret_str, ret_ptr, ret_agg, ret_tup, ob_some, bb_true, bb_false, List.getElem?_cons_zero, List.getElem?_cons_succ, List.length_cons, List.length_nil, Nat.reduceAdd, Nat.reduceLT]
  exact Evp.ret (Run.ret ⟨_, rfl, by rw [decide_eq_true_iff]; exact hz⟩)
end
def MayP (w h nx mw mh : Int) (tx : List Int) (ni nq : Int) : Prop := checkS w h nx = 0 ∧ w % 4 = 0 ∧ h % 4 = 0 ∧ mw = w / 4 ∧ mh = h / 4 ∧ tx.length = mw * mh ∧ ni = mw * mh ∧ nq = mw * mh ∧ ∀ t ∈ tx, TxP t
noncomputable instance (w h nx mw mh : Int) (tx : List Int) (ni nq : Int) : Decidable (MayP w h nx mw mh tx ni nq) := Classical.propDecidable _
theorem tmod4 {w : Int} (h : 0 ≤ w) : Int.tmod w 4 = w % 4 := Int.tmod_eq_emod_of_nonneg h
theorem tdiv4 {w : Int} (h : 0 ≤ w) : Int.tdiv w 4 = w / 4 := Int.tdiv_eq_ediv_of_nonneg h
theorem small_cells {w h : Int} (s : 1 ≤ w ∧ w ≤ 512 ∧ 1 ≤ h ∧ h ≤ 512) : IntKind.i64.wrap (w / 4) = w / 4 ∧ IntKind.i64.wrap (h / 4) = h / 4 ∧ IntKind.i64.wrap (w / 4 * (h / 4)) = w / 4 * (h / 4) ∧ 0 ≤ w / 4 * (h / 4) ∧ w / 4 * (h / 4) ≤ 16384 := by
  have a1 : 0 ≤ w / 4 ∧ w / 4 ≤ 128 := by omega
  have a2 : 0 ≤ h / 4 ∧ h / 4 ≤ 128 := by omega
  generalize w / 4 = p at *
  generalize h / 4 = q at *
  have m : p * q ≤ 128 * 128 := Int.mul_le_mul a1.2 a2.2 a2.1 (by decide)
  have m0 : 0 ≤ p * q := Int.mul_nonneg a1.1 a2.1
  generalize p * q = r at *
  exact ⟨w64 (by omega), w64 (by omega), w64 (by omega), m0, by omega⟩
section
variable (lo : Nat) (w h mw mh : Int) (A AT AI AQ : Option Addr) (n c ct ni ci nq cq : Nat) (tx : List Int) (M : Mem) (hlo : lo ≤ M.length) (hT : RdI M .u8 AT tx) (hnt : tx.length ≤ 140737488351232)
include hlo hT hnt
theorem may_ok : Ac P T lo F.deblock_may [.agg ⟨[.int .i64 w, .int .i64 h, .slice A n c]⟩, .agg ⟨[.int .i64 mw, .int .i64 mh, .slice AT tx.length ct, .slice AI ni ci, .slice AQ nq cq]⟩] M fun r => ∃ M', r = (.bool (decide (MayP w h n mw mh tx ni nq)), M') ∧ Pre M M' := by
  have bad : ∀ M', Pre M M' → ¬ MayP w h n mw mh tx ni nq → Run P T lo F.deblock_may (.ret (.bool false) M') fun r => ∃ M', r = (.bool (decide (MayP w h n mw mh tx ni nq)), M') ∧ Pre M M' := fun M' hp hno => Run.ret ⟨M', by rw [decide_eq_false hno], hp⟩
  refine Ac.of (Evp.of_eq (fun k => deblock_may.entry k ..) ?_)
  refine Evp.ob (check_ok ..) ?_
  rintro _ rfl
  simp only [ret_int, ret_bool, ret_flt, ret_slc, ret_str, ret_ptr, ret_agg, ret_tup, ob_some, bb_true, bb_false, List.getElem?_cons_zero, List.getElem?_cons_succ, List.length_cons, List.length_nil, Nat.reduceAdd, Nat.reduceLT]
  refine Evp.neb (fun g => Evp.ret (bad M (Pre.refl _) fun e => g e.1)) fun k1 => ?_
  have s1 := checkS_len' k1
  obtain ⟨c1, c2, c3, c4, c5⟩ := small_cells (w := w) (h := h) ⟨s1.1, s1.2.1, s1.2.2.1, s1.2.2.2.1⟩
  rw [tmod4 (by omega), tmod4 (by omega), tdiv4 (by omega), tdiv4 (by omega), c1, c2]
  refine Evp.neb (fun g => Evp.ret (bad M (Pre.refl _) fun e => g e.2.1)) fun k2 => ?_
  refine Evp.neb (fun g => Evp.ret (bad M (Pre.refl _) fun e => g e.2.2.1)) fun k3 => ?_
  refine Evp.neb (fun g => Evp.ret (bad M (Pre.refl _) fun e => g e.2.2.2.1)) fun k4 => ?_
  refine Evp.neb (fun g => Evp.ret (bad M (Pre.refl _) fun e => g e.2.2.2.2.1)) fun k5 => ?_
  have em : IntKind.i64.wrap (mw * mh) = mw * mh := by rw [k4, k5]; exact c3
  rw [em]
  have x1 := Pre.app M [⟨.fx, sizesL.map (Value.int .u8)⟩]
  have x2 := Pre.app (M ++ [⟨.fx, sizesL.map (Value.int .u8)⟩]) [⟨.fx, [.slice (some ⟨M.length, 0, none⟩) 5 5]⟩]
  have q2 := x1.trans x2
  refine Evp.some (push_st (Nat.le_trans hlo x1.len) rfl) ?_
  have hs : RdI ((M ++ [⟨.fx, sizesL.map (Value.int .u8)⟩]) ++ [⟨.fx, [.slice (some ⟨M.length, 0, none⟩) 5 5]⟩] : Mem) .u8 (some ⟨M.length, 0, none⟩) sizesL := (RdI.lit sizesL).pre x2
  have hb : ((M ++ [⟨.fx, sizesL.map (Value.int .u8)⟩]) ++ [⟨.fx, [.slice (some ⟨M.length, 0, none⟩) 5 5]⟩] : Mem).ld ⟨(M ++ [⟨.fx, sizesL.map (Value.int .u8)⟩] : Mem).length, 0, none⟩ = some (.slice (some ⟨M.length, 0, none⟩) 5 5) := fx_ld (push_self _ _) 0
  refine Evp.eqb (fun k6 => ?_) fun g => Evp.ret (bad _ q2 fun e => g e.2.2.2.2.2.1)
  refine Evp.eqb (fun k7 => ?_) fun g => Evp.ret (bad _ q2 fun e => g e.2.2.2.2.2.2.1)
  refine Evp.eqb (fun k8 => ?_) fun g => Evp.ret (bad _ q2 fun e => g e.2.2.2.2.2.2.2.1)
  refine Evp.ob (containsT_ok lo AT _ ct tx _ _ (hT.pre q2) hs hb hnt) ?_
  rintro _ ⟨z, rfl, hz⟩
  simp only [ret_int, ret_bool, ret_flt, ret_slc, ret_str, ret_ptr, ret_agg, ret_tup, ob_some, bb_true, bb_false, List.getElem?_cons_zero, List.getElem?_cons_succ, List.length_cons, List.length_nil, Nat.reduceAdd, Nat.reduceLT]
  refine Evp.ret (Run.ret ⟨_, ?_, q2⟩)
  congr 2
  rw [Bool.eq_iff_iff, decide_eq_true_iff, Bool.not_eq_true', ← Bool.not_eq_true, hz]
  constructor
  · intro hno
    refine ⟨k1, k2, k3, k4, k5, k6, k7, k8, fun t ht => ?_⟩
    by_cases g : TxP t
    · exact g
    · exact absurd ⟨t, ht, g⟩ hno
  · rintro e ⟨t, ht, g⟩
    exact g (e.2.2.2.2.2.2.2.2 t ht)
end
structure Cells where
  mw : Nat
  up : Bool
  col : Bool
  tx : List Int
  ids : List Int
  qs : List Bool
  level : Int
  sharp : Int
def secL (xs : List Int) (b st n : Nat) : List Int := (List.range n).map fun j => xs.getD (b + j * st) 0
def putL (xs : List Int) (b st : Nat) (zs : List Int) : Nat → List Int
  | 0 => xs
  | j + 1 => (putL xs b st zs j).set (b + j * st) (zs.getD j 0)
def lineS (xs : List Int) (b st n : Nat) (level sharp : Int) : List Int := putL xs b st (edgeL (secL xs b st n) level sharp) n
def tapsN (reach : Int) (col : Bool) : Nat := if reach < 8 then 4 else if col = true then 6 else if reach < 16 then 8 else 14
namespace Cells
variable (m : Cells) (W H : Nat)
def at_ (i : Nat) : Nat := if m.up then 4 * (i % m.mw) else 4 * (i / m.mw)
def side : Nat := if m.up then W else H
def prev (i : Nat) : Nat := if m.up then i - 1 else i - m.mw
def step : Nat := if m.up then 1 else W
def along : Nat := if m.up then W else 1
def skip (i : Nat) : Prop := m.at_ i = 0 ∨ (m.at_ i : Int) % m.tx.getD i 0 ≠ 0 ∨ (m.ids.getD i 0 = m.ids.getD (m.prev i) 0 ∧ m.qs.getD i false = true ∧ m.qs.getD (m.prev i) false = true)
instance (i : Nat) : Decidable (m.skip i) := inferInstanceAs (Decidable (_ ∨ _))
def reach (i : Nat) : Int := min (min (m.tx.getD i 0) (m.tx.getD (m.prev i) 0)) (min (m.at_ i : Int) ((m.side W H : Int) - m.at_ i))
def taps (i : Nat) : Nat := tapsN (m.reach W H i) m.col
def first (i k : Nat) : Nat := 4 * (i / m.mw) * W + 4 * (i % m.mw) + k * m.along W - m.taps W H i / 2 * m.step W
def linesS (xs : List Int) (i : Nat) : Nat → List Int
  | 0 => xs
  | k + 1 => lineS (linesS xs i k) (m.first W H i k) (m.step W) (m.taps W H i) m.level m.sharp
def cellS (xs : List Int) (i : Nat) : List Int := if m.skip i then xs else m.linesS W H xs i 4
def passS (xs : List Int) : Nat → List Int
  | 0 => xs
  | i + 1 => m.cellS W H (passS xs i) i
end Cells
theorem putL_len (xs : List Int) (b st : Nat) (zs : List Int) : ∀ n, (putL xs b st zs n).length = xs.length
  | 0 => rfl
  | n + 1 => by simp only [putL, List.length_set]; exact putL_len xs b st zs n
theorem secL_len (xs : List Int) (b st n : Nat) : (secL xs b st n).length = n := by simp [secL]
theorem secL_bytes {xs : List Int} (bx : Bytes xs) (b st n : Nat) : Bytes (secL xs b st n) := fun z hz => by
  unfold secL at hz
  obtain ⟨j, _, rfl⟩ := List.mem_map.1 hz
  exact bx.get _
theorem tapsN_le {r : Int} (col : Bool) (h : 4 ≤ r) : (tapsN r col = 4 ∨ tapsN r col = 6 ∨ tapsN r col = 8 ∨ tapsN r col = 14) ∧ ((tapsN r col / 2 : Nat) : Int) ≤ r := by
  unfold tapsN
  split
  · exact ⟨.inl rfl, by omega⟩
  · split
    · exact ⟨.inr (.inl rfl), by omega⟩
    · split
      · exact ⟨.inr (.inr (.inl rfl)), by omega⟩
      · exact ⟨.inr (.inr (.inr rfl)), by omega⟩
theorem divmod_lt {i mw mh : Nat} (h : i < mw * mh) : i / mw < mh ∧ i % mw < mw ∧ 0 < mw := by
  have h0 : 0 < mw := by
    rcases Nat.eq_zero_or_pos mw with e | e
    · rw [e, Nat.zero_mul] at h; omega
    · exact e
  exact ⟨(Nat.div_lt_iff_lt_mul h0).2 (by rwa [Nat.mul_comm] at h), Nat.mod_lt _ h0, h0⟩
theorem row_in {h w y c : Nat} (hy : y < h) (hc : c < w) : y * w + c < h * w := by
  have : (y + 1) * w ≤ h * w := Nat.mul_le_mul_right w (by omega)
  rw [Nat.add_mul, Nat.one_mul] at this
  omega
section
variable (m : Cells) (W H mh i : Nat) (hW : W = 4 * m.mw) (hH : H = 4 * mh) (hi : i < m.mw * mh) (t1 : TxP (m.tx.getD i 0)) (t2 : TxP (m.tx.getD (m.prev i) 0)) (hs : ¬ m.skip i)
include hW hH hi
theorem at_lt : m.at_ i < m.side W H ∧ m.at_ i % 4 = 0 ∧ m.side W H % 4 = 0 := by
  obtain ⟨h1, h2, h3⟩ := divmod_lt hi
  unfold Cells.at_ Cells.side
  split <;> omega
include t1 t2 hs
theorem geo : (m.taps W H i = 4 ∨ m.taps W H i = 6 ∨ m.taps W H i = 8 ∨ m.taps W H i = 14) ∧ m.taps W H i / 2 ≤ m.at_ i ∧ m.at_ i + m.taps W H i / 2 ≤ m.side W H ∧ 4 ≤ m.reach W H i := by
  obtain ⟨a1, a2, a3⟩ := at_lt m W H mh i hW hH hi
  have h0 : m.at_ i ≠ 0 := fun e => hs (.inl e)
  unfold TxP at t1 t2
  have hr : 4 ≤ m.reach W H i := by unfold Cells.reach; omega
  have hr2 : m.reach W H i ≤ m.at_ i ∧ m.reach W H i ≤ (m.side W H : Int) - m.at_ i := by unfold Cells.reach; omega
  obtain ⟨g1, g2⟩ := tapsN_le m.col hr
  unfold Cells.taps
  exact ⟨g1, by omega, by omega, hr⟩
theorem pos_eq (k j : Nat) (hk : k < 4) (hj : j < m.taps W H i) : m.first W H i k + j * m.step W = (if m.up then (4 * (i / m.mw) + k) * W + (4 * (i % m.mw) - m.taps W H i / 2 + j) else (4 * (i / m.mw) - m.taps W H i / 2 + j) * W + (4 * (i % m.mw) + k)) ∧
    m.first W H i k + j * m.step W < H * W ∧ m.first W H i k + m.taps W H i / 2 * m.step W = 4 * (i / m.mw) * W + 4 * (i % m.mw) + k * m.along W := by
  obtain ⟨h1, h2, h3⟩ := divmod_lt hi
  obtain ⟨g1, g2, g3, _⟩ := geo m W H mh i hW hH hi t1 t2 hs
  unfold Cells.first
  unfold Cells.at_ at g2
  unfold Cells.at_ Cells.side at g3
  unfold Cells.step Cells.along
  generalize m.taps W H i = n at *
  generalize hy : i / m.mw = y at *
  generalize hx : i % m.mw = x at *
  cases hu : m.up with
  | true =>
    rw [hu] at g2 g3
    simp only [if_true] at g2 g3 ⊢
    have e : (4 * y + k) * W = 4 * y * W + k * W := Nat.add_mul ..
    have l := row_in (h := H) (w := W) (y := 4 * y + k) (c := 4 * x - n / 2 + j) (by omega) (by omega)
    refine ⟨by omega, by omega, by omega⟩
  | false =>
    rw [hu] at g2 g3
    simp only [Bool.false_eq_true, if_false] at g2 g3 ⊢
    have e : (4 * y - n / 2 + j) * W = 4 * y * W - n / 2 * W + j * W := by rw [Nat.add_mul, Nat.sub_mul]
    have e2 : n / 2 * W ≤ 4 * y * W := Nat.mul_le_mul_right W g2
    have l := row_in (h := H) (w := W) (y := 4 * y - n / 2 + j) (c := 4 * x + k) (by omega) (by omega)
    refine ⟨by omega, by omega, by omega⟩
end
theorem putL_bytes {xs : List Int} (bx : Bytes xs) (b st : Nat) {zs : List Int} (bz : Bytes zs) : ∀ n, Bytes (putL xs b st zs n)
  | 0 => bx
  | n + 1 => fun z hz => by
    simp only [putL] at hz
    rcases List.mem_or_eq_of_mem_set hz with hz | rfl
    · exact putL_bytes bx b st bz n z hz
    · exact bz.get _
theorem set_bytes {xs : List Int} (bx : Bytes xs) (i : Nat) {v : Int} (hv : 0 ≤ v ∧ v ≤ 255) : Bytes (xs.set i v) := fun z hz => by
  rcases List.mem_or_eq_of_mem_set hz with hz | rfl
  · exact bx z hz
  · exact hv
theorem wideL_all {xs : List Int} (bx : Bytes xs) (n m : Nat) (sh : Int) : ∀ k, Bytes (wideL xs n m sh k)
  | 0 => bx
  | k + 1 => by
    simp only [wideL]
    refine set_bytes (wideL_all bx n m sh k) _ ?_
    unfold valE
    rw [IntKind.wrap_u8]; omega
theorem clip_byte (v : Int) : 0 ≤ clipS v 0 255 ∧ clipS v 0 255 ≤ 255 := by
  unfold clipS
  repeat' split
  all_goals omega
theorem edgeL_bytes {xs : List Int} (bx : Bytes xs) (level sharp : Int) : Bytes (edgeL xs level sharp) := by
  unfold edgeL passL narrowL
  repeat' split
  · exact wideL_all bx _ _ _ _
  · exact wideL_all bx _ _ _ _
  · exact wideL_all bx _ _ _ _
  · exact set_bytes (set_bytes bx _ (clip_byte _)) _ (clip_byte _)
  · exact set_bytes (set_bytes (set_bytes (set_bytes bx _ (clip_byte _)) _ (clip_byte _)) _ (clip_byte _)) _ (clip_byte _)
  · exact bx
theorem lineS_len (xs : List Int) (b st n : Nat) (level sharp : Int) : (lineS xs b st n level sharp).length = xs.length := putL_len ..
theorem lineS_bytes {xs : List Int} (bx : Bytes xs) (b st n : Nat) (level sharp : Int) : Bytes (lineS xs b st n level sharp) := putL_bytes bx b st (edgeL_bytes (secL_bytes bx b st n) level sharp) n
theorem half_eq {hf : Nat} (h : hf ≤ 7) : IntKind.i64.wrap (Int.tdiv ((2 * hf : Nat) : Int) 2) = (hf : Int) ∧ IntKind.i64.wrap (Int.tdiv (IntKind.i64.wrap (0 - ((2 * hf : Nat) : Int))) 2) = -(hf : Int) := by
  constructor
  · rw [show Int.tdiv ((2 * hf : Nat) : Int) 2 = ((2 * hf / 2 : Nat) : Int) from rfl, w64 (by omega)]; omega
  · rw [w64 (x := 0 - ((2 * hf : Nat) : Int)) (by omega), show (0 : Int) - ((2 * hf : Nat) : Int) = -((2 * hf : Nat) : Int) by omega, Int.neg_tdiv, show Int.tdiv ((2 * hf : Nat) : Int) 2 = ((2 * hf / 2 : Nat) : Int) from rfl, w64 (by omega)]; omega
theorem minI_eq (a b : Int) : minI a b = min a b := by unfold minI; omega
def PassOk (w h nx mw mh : Int) (tx : List Int) (ni nq level sharp : Int) : Prop := MayP w h nx mw mh tx ni nq ∧ 0 ≤ level ∧ level ≤ 63 ∧ 0 ≤ sharp ∧ sharp ≤ 7
noncomputable instance (w h nx mw mh : Int) (tx : List Int) (ni nq level sharp : Int) : Decidable (PassOk w h nx mw mh tx ni nq level sharp) := Classical.propDecidable _
def PassR (Mb : Mem) (w h : Int) (xs : List Int) (m : Cells) (mw mh : Int) (r : Value × Mem) : Prop :=
  Pre Mb r.2 ∧ if PassOk w h xs.length mw mh m.tx m.ids.length m.qs.length m.level m.sharp then ∃ a cc, r.1 = .tuple ⟨[.agg ⟨[.int .i64 w, .int .i64 h, .slice (some a) xs.length cc]⟩, .int .i64 0]⟩ ∧ xs.length ≤ cc ∧ Buf Mb r.2 a ((m.passS w.toNat h.toNat xs m.tx.length).map (Value.int .u8))
    else r.1 = .tuple ⟨[.agg ⟨[.int .i64 0, .int .i64 0, .slice none 0 0]⟩, .int .i64 2]⟩
namespace Cells
variable (m : Cells) (W H : Nat)
theorem linesS_len (xs : List Int) (i : Nat) : ∀ k, (m.linesS W H xs i k).length = xs.length
  | 0 => rfl
  | k + 1 => by simp only [linesS]; rw [lineS_len]; exact linesS_len xs i k
theorem cellS_len (xs : List Int) (i : Nat) : (m.cellS W H xs i).length = xs.length := by
  unfold cellS; split
  · rfl
  · exact linesS_len ..
theorem passS_len (xs : List Int) : ∀ i, (m.passS W H xs i).length = xs.length
  | 0 => rfl
  | i + 1 => by simp only [passS]; rw [cellS_len]; exact passS_len xs i
theorem linesS_bytes {xs : List Int} (bx : Bytes xs) (i : Nat) : ∀ k, Bytes (m.linesS W H xs i k)
  | 0 => bx
  | k + 1 => by simp only [linesS]; exact lineS_bytes (linesS_bytes bx i k) _ _ _ _ _
theorem cellS_bytes {xs : List Int} (bx : Bytes xs) (i : Nat) : Bytes (m.cellS W H xs i) := by
  unfold cellS; split
  · exact bx
  · exact linesS_bytes m W H bx i 4
theorem passS_bytes {xs : List Int} (bx : Bytes xs) : ∀ i, Bytes (m.passS W H xs i)
  | 0 => bx
  | i + 1 => by simp only [passS]; exact cellS_bytes m W H (passS_bytes bx i) i
end Cells
theorem prev_lt {m : Cells} {i mh : Nat} (h : i < m.mw * mh) : m.prev i < m.mw * mh := by unfold Cells.prev; split <;> omega
structure PassF (m : Cells) (W H mh : Nat) (n : Nat) (AT AI AQ : Option Addr) (Mb : Mem) : Prop where
  hW : W = 4 * m.mw
  hH : H = 4 * mh
  w512 : W ≤ 512
  h512 : H ≤ 512
  hn : n = H * W
  ht : m.tx.length = m.mw * mh
  hi : m.ids.length = m.mw * mh
  hq : m.qs.length = m.mw * mh
  tp : ∀ t ∈ m.tx, TxP t
  rt : RdI Mb .u8 AT m.tx
  ri : RdI Mb .i64 AI m.ids
  rq : RdB Mb AQ m.qs
  lv : 0 ≤ m.level ∧ m.level ≤ 63
  sh : 0 ≤ m.sharp ∧ m.sharp ≤ 7
section
variable {m : Cells} {W H mh n : Nat} {AT AI AQ : Option Addr} {Mb : Mem} (f : PassF m W H mh n AT AI AQ Mb)
include f
theorem PassF.txp {i : Nat} (h : i < m.mw * mh) : TxP (m.tx.getD i 0) := f.tp _ (getD_mem (by rw [f.ht]; exact h))
theorem PassF.small : n ≤ 262144 ∧ m.mw * mh ≤ 16384 := by
  have h1 : H * W ≤ 512 * 512 := Nat.mul_le_mul f.h512 f.w512
  have := f.hW
  have := f.hH
  have := f.w512
  have := f.h512
  have h2 : m.mw * mh ≤ 128 * 128 := Nat.mul_le_mul (by omega) (by omega)
  have := f.hn
  omega
end
theorem reachTaps_ok (lo : Nat) (r : Int) (col : Bool) (M : Mem) : Ac P T lo F.deblock_reachTaps [.int .i64 r, .bool col] M fun q => q = (.int .i64 ((tapsN r col : Nat) : Int), M) := by
  refine Ac.of (Evp.of_eq (fun k => deblock_reachTaps.entry k ..) ?_)
  unfold tapsN
  refine Evp.dec (fun h => Evp.ret (Run.ret (by rw [if_pos h]; rfl))) fun h => ?_
  rw [if_neg h]
  refine Evp.bb (fun h => Evp.ret (Run.ret (by rw [if_pos h]; rfl))) fun h' => ?_
  rw [if_neg (by rw [h']; simp)]
  refine Evp.dec (fun h => Evp.ret (Run.ret (by rw [if_pos h]; rfl))) fun h => Evp.ret (Run.ret (by rw [if_neg h]; rfl))
theorem zerosL_one (v : Value) (n : Nat) : zerosL [v] n = List.replicate n v := by
  unfold zerosL
  induction n with
  | zero => rfl
  | succ n ih => rw [List.replicate_succ, List.flatten_cons, ih]; rfl
namespace Cells
def back (m : Cells) : Nat := if m.up then 1 else m.mw
end Cells
section
variable (lo W H mh : Nat) (m : Cells) (AT AI AQ : Option Addr) (n ct ci cq : Nat) (a : Addr) (co : Nat) (Mb : Mem) (hlo : lo ≤ Mb.length) (f : PassF m W H mh n AT AI AQ Mb) (h0 : m.level ≠ 0) (Q : Value × Mem → Prop)
include hlo f
theorem plane_write (x y i k tn : Nat) (b : Nat) (hb : b ≤ 262144) (z : Addr) (cz : Nat) (xs zs : List Int) (hl : xs.length = n) (hz : zs.length = tn) (ht : tn ≤ 14) (hin : ∀ j, j < tn → b + j * m.step W < n) (M1 : Mem) (hza : a.block < M1.length)
    (next : ∀ M, Pre Mb M → Buf Mb M a ((putL xs b (m.step W) zs tn).map (Value.int .u8)) → Run P T lo F.deblock_Pass (deblock_Pass.c33462780 m.up m.col (m.step W : Nat) (m.along W : Nat) (m.back : Nat) (m.side W H : Nat) x y tn AT m.tx.length ct m.tx.length i ((k + 1 : Nat) : Int) W H (some a) n co m.mw mh AT m.tx.length ct AI m.ids.length ci AQ m.qs.length cq 0 0 none 0 0 (limitS m.level m.sharp) (2 * (m.level + 2) + limitS m.level m.sharp) (m.level / 16) M) Q) (hk : k < 4) :
    ∀ (d j : Nat) (M : Mem), tn - j = d → j ≤ tn → Pre Mb M → Buf Mb M a ((putL xs b (m.step W) zs j).map (Value.int .u8)) → Buf M1 M z (zs.map (Value.int .u8)) →
      Run P T lo F.deblock_Pass (deblock_Pass.c68531775100 m.up m.col (m.step W : Nat) (m.along W : Nat) (m.back : Nat) (m.side W H : Nat) x y tn b AT m.tx.length ct m.tx.length i k (some z) tn cz tn j W H (some a) n co m.mw mh AT m.tx.length ct AI m.ids.length ci AQ m.qs.length cq 0 0 none 0 0 (limitS m.level m.sharp) (2 * (m.level + 2) + limitS m.level m.sharp) (m.level / 16) M) Q := by
  have w512 := f.w512
  have st : m.step W ≤ 512 := by unfold Cells.step; split <;> omega
  intro d
  induction d with
  | zero =>
    intro j M hd hj hp hbuf hbz
    obtain rfl : j = tn := by omega
    refine Run.cut (Evp.of_eq (fun k => deblock_Pass.p68531775100 k ..) ?_)
    refine Evp.dec (fun h => absurd h (by omega)) fun _ => ?_
    rw [w64 (by omega)]
    exact Evp.ret (next M hp hbuf)
  | succ d ih =>
    intro j M hd hj hp hbuf hbz
    have hlt := hin j (by omega)
    have jm : j * m.step W ≤ 14 * 512 := Nat.mul_le_mul (by omega) st
    have ei : IntKind.i64.wrap ((b : Int) + IntKind.i64.wrap ((j : Int) * (m.step W : Nat))) = ((b + j * m.step W : Nat) : Int) := by
      rw [← Int.natCast_mul, w64 (x := ((j * m.step W : Nat) : Int)) (by omega), w64 (by omega)]; omega
    refine Run.cut (Evp.of_eq (fun k => deblock_Pass.p68531775100 k ..) ?_)
    rw [ei]
    refine Evp.dec (fun _ => ?_) fun h => absurd h (by omega)
    refine Evp.pos (by omega) ?_
    simp only [Int.toNat_natCast]
    refine Evp.ldI hbz.rdI (by omega) fun _ _ => ?_
    refine Evp.pos (by omega) (Evp.some rfl ?_)
    obtain ⟨M3, h1, h2, h3, h4, h5⟩ := hbuf.st (lo := lo) (i := b + j * m.step W) (vs := [.int .u8 (zs.getD j 0)]) hp hlo (by simp [putL_len]; omega)
    refine Evp.some h1 ?_
    rw [setL_one, set_map] at h2
    rw [w64 (by omega)]
    exact Evp.ret (ih (j + 1) M3 (by omega) (by omega) h3 h2 (hbz.keep h4 fun a' e => by injection e with e; subst e; have := hbz.new; omega))
include h0
theorem plane_read (x y i k hf : Nat) (hhf : hf = 2 ∨ hf = 3 ∨ hf = 4 ∨ hf = 7) (b : Nat) (hb : b ≤ 262144) (xs : List Int) (hl : xs.length = n) (bx : Bytes xs) (hin : ∀ j, j < 2 * hf → b + j * m.step W < n) (hk : k < 4)
    (next : ∀ M, Pre Mb M → Buf Mb M a ((lineS xs b (m.step W) (2 * hf) m.level m.sharp).map (Value.int .u8)) → Run P T lo F.deblock_Pass (deblock_Pass.c33462780 m.up m.col (m.step W : Nat) (m.along W : Nat) (m.back : Nat) (m.side W H : Nat) x y ((2 * hf : Nat) : Int) AT m.tx.length ct m.tx.length i ((k + 1 : Nat) : Int) W H (some a) n co m.mw mh AT m.tx.length ct AI m.ids.length ci AQ m.qs.length cq 0 0 none 0 0 (limitS m.level m.sharp) (2 * (m.level + 2) + limitS m.level m.sharp) (m.level / 16) M) Q)
    (M0 : Mem) (hp0 : Pre Mb M0) (hbuf0 : Buf Mb M0 a (xs.map (Value.int .u8))) (s : Addr) : ∀ (d j : Nat) (ss : List Int) (M : Mem), 2 * hf - j = d → j ≤ 2 * hf → ss.length = 2 * hf → (∀ q, q < j → ss.getD q 0 = xs.getD (b + q * m.step W) 0) → Pre M0 M → Buf M0 M s (ss.map (Value.int .u8)) →
      Run P T lo F.deblock_Pass (deblock_Pass.c68531775092 m.up m.col (m.step W : Nat) (m.along W : Nat) (m.back : Nat) (m.side W H : Nat) x y ((2 * hf : Nat) : Int) b AT m.tx.length ct m.tx.length i k ((2 * hf : Nat) : Int) j W H (some a) n co m.mw mh AT m.tx.length ct AI m.ids.length ci AQ m.qs.length cq 0 0 none 0 0 (limitS m.level m.sharp) (2 * (m.level + 2) + limitS m.level m.sharp) (m.level / 16) (some s) (2 * hf) (2 * hf) hf M) Q := by
  have w512 := f.w512
  have st : m.step W ≤ 512 := by unfold Cells.step; split <;> omega
  have hab : a.block < M0.length := by
    obtain ⟨_, _, _, hb2, _⟩ := hbuf0
    exact (List.getElem?_eq_some_iff.1 hb2).1
  intro d
  induction d with
  | zero =>
    intro j ss M hd hj hs hq hp hbs
    obtain rfl : j = 2 * hf := by omega
    have ess : ss = secL xs b (m.step W) (2 * hf) := ext_getD (by rw [hs, secL_len]) fun q hq' => by
      rw [hq q (by omega)]
      unfold secL
      rw [getD_map_range (by omega)]
    refine Run.cut (Evp.of_eq (fun k => deblock_Pass.p68531775092 k ..) ?_)
    refine Evp.dec (fun h => absurd h (by omega)) fun _ => ?_
    have F := filter_ok lo (some s) (2 * hf) ss M m.level (Nat.le_trans hlo (hp0.trans hp).len) hbs.rdI (by rw [ess]; exact secL_bytes bx _ _ _) (by omega) (limitS m.level m.sharp) (2 * (m.level + 2) + limitS m.level m.sharp)
    rw [hs, show 2 * hf / 2 = hf by omega] at F
    refine Evp.ob F ?_
    rintro _ ⟨z, cz, M1, rfl, p1, b1⟩
    simp only [ret_int, ret_bool, ret_flt, ret_slc, ret_str, ret_ptr, ret_agg, ret_tup, ob_some, bb_true, bb_false, List.getElem?_cons_zero, List.getElem?_cons_succ, List.length_cons, List.length_nil, Nat.reduceAdd, Nat.reduceLT]
    have ee : (if smoothE ss (limitS m.level m.sharp) (2 * (m.level + 2) + limitS m.level m.sharp) then passL ss m.level else ss) = edgeL (secL xs b (m.step W) (2 * hf)) m.level m.sharp := by
      rw [← ess]
      unfold edgeL edgeOf
      by_cases g : smoothE ss (limitS m.level m.sharp) (2 * (m.level + 2) + limitS m.level m.sharp)
      · rw [if_pos g, if_pos ⟨h0, g⟩]
      · rw [if_neg g, if_neg (fun e => g e.2)]
    rw [ee] at b1
    exact Evp.ret (plane_write lo W H mh m AT AI AQ n ct ci cq a co Mb hlo f Q x y i k (2 * hf) b hb z cz xs _ hl (by rw [edgeL_len, secL_len]) (by omega) hin M (Nat.lt_of_lt_of_le hab hp.len) next hk _ 0 M1 rfl (Nat.zero_le _) ((hp0.trans hp).trans p1) ((hbuf0.pre hp).pre p1) b1)
  | succ d ih =>
    intro j ss M hd hj hs hq hp hbs
    have hlt := hin j (by omega)
    have jm : j * m.step W ≤ 14 * 512 := Nat.mul_le_mul (by omega) st
    have ei : IntKind.i64.wrap ((b : Int) + IntKind.i64.wrap ((j : Int) * (m.step W : Nat))) = ((b + j * m.step W : Nat) : Int) := by
      rw [← Int.natCast_mul, w64 (x := ((j * m.step W : Nat) : Int)) (by omega), w64 (by omega)]; omega
    refine Run.cut (Evp.of_eq (fun k => deblock_Pass.p68531775092 k ..) ?_)
    rw [ei]
    refine Evp.dec (fun _ => ?_) fun h => absurd h (by omega)
    refine Evp.pos (by omega) ?_
    simp only [Int.toNat_natCast]
    refine Evp.ldI (hbuf0.pre hp).rdI (by omega) fun _ _ => ?_
    refine Evp.pos (by omega) (Evp.some rfl ?_)
    obtain ⟨M3, h1, h2, h3, h4, h5⟩ := hbs.st (lo := lo) (i := j) (vs := [.int .u8 (xs.getD (b + j * m.step W) 0)]) hp (Nat.le_trans hlo hp0.len) (by simp; omega)
    refine Evp.some h1 ?_
    rw [setL_one, set_map] at h2
    rw [w64 (by omega)]
    refine Evp.ret (ih (j + 1) _ M3 (by omega) (by omega) (by simpa using hs) (fun q hq' => ?_) h3 h2)
    rw [getD_set (by omega)]
    split
    · rename_i e; subst e; rfl
    · exact hq q (by omega)
theorem plane_lines (i : Nat) (hi : i < m.mw * mh) (hs : ¬ m.skip i) (xs : List Int) (hl : xs.length = n) (bx : Bytes xs)
    (next : ∀ M, Pre Mb M → Buf Mb M a ((m.linesS W H xs i 4).map (Value.int .u8)) → Run P T lo F.deblock_Pass (deblock_Pass.c32679 m.up m.col (m.step W : Nat) (m.along W : Nat) (m.back : Nat) (m.side W H : Nat) AT m.tx.length ct m.tx.length i W H (some a) n co m.mw mh AT m.tx.length ct AI m.ids.length ci AQ m.qs.length cq 0 0 none 0 0 (limitS m.level m.sharp) (2 * (m.level + 2) + limitS m.level m.sharp) (m.level / 16) M) Q) :
    ∀ (d k : Nat) (M : Mem), 4 - k = d → k ≤ 4 → Pre Mb M → Buf Mb M a ((m.linesS W H xs i k).map (Value.int .u8)) →
      Run P T lo F.deblock_Pass (deblock_Pass.c33462780 m.up m.col (m.step W : Nat) (m.along W : Nat) (m.back : Nat) (m.side W H : Nat) ((4 * (i % m.mw) : Nat) : Int) ((4 * (i / m.mw) : Nat) : Int) (m.taps W H i : Nat) AT m.tx.length ct m.tx.length i k W H (some a) n co m.mw mh AT m.tx.length ct AI m.ids.length ci AQ m.qs.length cq 0 0 none 0 0 (limitS m.level m.sharp) (2 * (m.level + 2) + limitS m.level m.sharp) (m.level / 16) M) Q := by
  obtain ⟨s1, s2⟩ := f.small
  have t1 := f.txp hi
  have t2 := f.txp (prev_lt hi)
  have w512 := f.w512
  have h512 := f.h512
  have hw := f.hW
  have hh := f.hH
  have ht := f.ht
  obtain ⟨g1, g2, g3, g4⟩ := geo m W H mh _ f.hW f.hH hi t1 t2 hs
  obtain ⟨v1, v2, v3⟩ := divmod_lt hi
  have P1 := pos_eq m W H mh _ f.hW f.hH hi t1 t2 hs
  obtain ⟨hf, hft, hfv⟩ : ∃ hf, m.taps W H i = 2 * hf ∧ (hf = 2 ∨ hf = 3 ∨ hf = 4 ∨ hf = 7) := ⟨m.taps W H i / 2, by omega, by omega⟩
  intro d
  induction d with
  | zero =>
    intro k M hd hk hp hbuf
    obtain rfl : k = 4 := by omega
    refine Run.cut (Evp.of_eq (fun k => deblock_Pass.p33462780 k ..) ?_)
    refine Evp.dec (fun h => absurd h (by omega)) fun _ => Evp.ret (next M hp hbuf)
  | succ d ih =>
    intro k M hd hk hp hbuf
    have P0 := (P1 k 0 (by omega) (by omega)).2
    have hin : ∀ j, j < 2 * hf → m.first W H i k + j * m.step W < n := fun j hj => by
      rw [f.hn]
      exact (P1 k j (by omega) (by omega)).2.1
    have b0 := hin 0 (by omega)
    rw [Nat.zero_mul, Nat.add_zero] at b0
    have st512 : m.step W ≤ 512 := by unfold Cells.step; split <;> omega
    have ec : IntKind.i64.wrap ((IntKind.i64.wrap ((IntKind.i64.wrap ((IntKind.i64.wrap (((4 * (i / m.mw) : Nat) : Int) * W)) + ((4 * (i % m.mw) : Nat) : Int))) + (IntKind.i64.wrap ((k : Int) * (m.along W : Nat))))) - (IntKind.i64.wrap ((IntKind.i64.wrap (Int.tdiv ((2 * hf : Nat) : Int) 2)) * (m.step W : Nat)))) = ((m.first W H i k : Nat) : Int) := by
      have e1 : hf = m.taps W H i / 2 := by omega
      have e2 := P0.2
      rw [← e1] at e2
      have a1 : m.along W ≤ 512 := by unfold Cells.along; split <;> omega
      have a2 : k * m.along W ≤ 4 * 512 := Nat.mul_le_mul (by omega) a1
      have a3 : 4 * (i / m.mw) * W ≤ 512 * 512 := Nat.mul_le_mul (by omega) w512
      have a4 : hf * m.step W ≤ 7 * 512 := Nat.mul_le_mul (by omega) st512
      rw [(half_eq (hf := hf) (by omega)).1, ← Int.natCast_mul k, ← Int.natCast_mul hf, ← Int.natCast_mul]
      generalize 4 * (i / m.mw) * W = q1 at *
      generalize k * m.along W = q2 at *
      generalize hf * m.step W = q3 at *
      generalize i % m.mw = x at *
      rw [w64 (x := (q1 : Int)) (by omega), w64 (x := (q1 : Int) + ((4 * x : Nat) : Int)) (by omega), w64 (x := (q2 : Int)) (by omega), w64 (x := (q1 : Int) + ((4 * x : Nat) : Int) + q2) (by omega), w64 (x := (q3 : Int)) (by omega), w64 (by omega)]
      omega
    refine Run.cut (Evp.of_eq (fun k => deblock_Pass.p33462780 k ..) ?_)
    rw [hft] at ih ⊢
    refine Evp.dec (fun _ => ?_) fun h => absurd h (by omega)
    refine Evp.pos ⟨by omega, by show _ * 1 ≤ _; omega⟩ ?_
    rw [ec, (half_eq (hf := hf) (by omega)).1]
    simp only [Int.toNat_natCast]
    have hz : zerosL [.int .u8 0] (2 * hf) = (List.replicate (2 * hf) (0 : Int)).map (Value.int .u8) := by rw [zerosL_one, List.map_replicate]
    rw [hz]
    refine Evp.ret (plane_read lo W H mh m AT AI AQ n ct ci cq a co Mb hlo f h0 Q _ _ i k hf hfv (m.first W H i k) (by omega) (m.linesS W H xs i k) (by rw [m.linesS_len]; exact hl) (m.linesS_bytes W H bx i k) hin (by omega) (fun M' hp' hb' => ?_) M hp hbuf ⟨M.length, 0, none⟩ _ 0 (List.replicate (2 * hf) 0) _ rfl (Nat.zero_le _) (by simp) (fun q hq => absurd hq (by omega)) (Pre.app _ _) (Buf.push (Pre.refl _)))
    refine ih (k + 1) M' (by omega) (by omega) hp' ?_
    simp only [Cells.linesS]
    rw [hft]
    exact hb'
theorem plane_cell (i : Nat) (hi : i < m.mw * mh) (xs : List Int) (hl : xs.length = n) (bx : Bytes xs) (M : Mem) (hp : Pre Mb M) (hbuf : Buf Mb M a (xs.map (Value.int .u8)))
    (next : ∀ M, Pre Mb M → Buf Mb M a ((m.cellS W H xs i).map (Value.int .u8)) → Run P T lo F.deblock_Pass (deblock_Pass.c32679 m.up m.col (m.step W : Nat) (m.along W : Nat) (m.back : Nat) (m.side W H : Nat) AT m.tx.length ct m.tx.length i W H (some a) n co m.mw mh AT m.tx.length ct AI m.ids.length ci AQ m.qs.length cq 0 0 none 0 0 (limitS m.level m.sharp) (2 * (m.level + 2) + limitS m.level m.sharp) (m.level / 16) M) Q) :
    Run P T lo F.deblock_Pass (deblock_Pass.c1045711 m.up m.col (m.step W : Nat) (m.along W : Nat) (m.back : Nat) (m.side W H : Nat) i (m.tx.getD i 0) ((4 * (i % m.mw) : Nat) : Int) ((4 * (i / m.mw) : Nat) : Int) (m.at_ i : Nat) AT m.tx.length ct m.tx.length i W H (some a) n co m.mw mh AT m.tx.length ct AI m.ids.length ci AQ m.qs.length cq 0 0 none 0 0 (limitS m.level m.sharp) (2 * (m.level + 2) + limitS m.level m.sharp) (m.level / 16) M) Q := by
  obtain ⟨s1, s2⟩ := f.small
  have t1 := f.txp hi
  have t2 := f.txp (prev_lt hi)
  have pl := prev_lt hi
  have skp : m.skip i → Run P T lo F.deblock_Pass (deblock_Pass.c32679 m.up m.col (m.step W : Nat) (m.along W : Nat) (m.back : Nat) (m.side W H : Nat) AT m.tx.length ct m.tx.length i W H (some a) n co m.mw mh AT m.tx.length ct AI m.ids.length ci AQ m.qs.length cq 0 0 none 0 0 (limitS m.level m.sharp) (2 * (m.level + 2) + limitS m.level m.sharp) (m.level / 16) M) Q := fun h => next M hp (by unfold Cells.cellS; rw [if_pos h]; exact hbuf)
  have asd := at_lt m W H mh _ f.hW f.hH hi
  obtain ⟨v1, v2, v3⟩ := divmod_lt hi
  have w512 := f.w512
  have h512 := f.h512
  have sd : m.side W H ≤ 512 := by unfold Cells.side; split <;> omega
  have t1' := t1
  have t2' := t2
  unfold TxP at t1' t2'
  have ht := f.ht
  have hii := f.hi
  have hqq := f.hq
  have rt := f.rt.pre hp
  have ri := f.ri.pre hp
  have rq := f.rq.pre hp
  have go : ¬ m.skip i → Evp (fun k => pb (0 ≤ ((m.prev i : Nat) : Int) ∧ ((m.prev i : Nat) : Int) < (m.tx.length : Int)) (ob AT fun a49 => ob ((M.ld (plus a49 (m.prev i))).bind (Value.int? .u8)) fun x50 =>
      ob (acall P T k lo F.deblock_reachTaps [.int .i64 (minI (minI (minI (IntKind.i64.wrap (m.tx.getD i 0)) (IntKind.i64.wrap x50)) (m.at_ i : Nat)) (IntKind.i64.wrap (((m.side W H : Nat) : Int) - (m.at_ i : Nat)))), .bool m.col] M) fun r51 => ob ((some r51.1).bind (Value.int? .i64)) fun x52 =>
      some (deblock_Pass.c33462780 m.up m.col (m.step W : Nat) (m.along W : Nat) (m.back : Nat) (m.side W H : Nat) ((4 * (i % m.mw) : Nat) : Int) ((4 * (i / m.mw) : Nat) : Int) x52 AT m.tx.length ct m.tx.length i 0 W H (some a) n co m.mw mh AT m.tx.length ct AI m.ids.length ci AQ m.qs.length cq 0 0 none 0 0 (limitS m.level m.sharp) (2 * (m.level + 2) + limitS m.level m.sharp) (m.level / 16) r51.2)) none) fun out => Run P T lo F.deblock_Pass out Q := fun h => by
    refine Evp.pos (by omega) (Evp.ldI rt (by omega) fun _ _ => ?_)
    have er : minI (minI (minI (IntKind.i64.wrap (m.tx.getD i 0)) (IntKind.i64.wrap (m.tx.getD (m.prev i) 0))) (m.at_ i : Nat)) (IntKind.i64.wrap (((m.side W H : Nat) : Int) - (m.at_ i : Nat))) = m.reach W H i := by
      rw [w64 (x := m.tx.getD i 0) (by omega), w64 (x := m.tx.getD (m.prev i) 0) (by omega), w64 (x := ((m.side W H : Nat) : Int) - (m.at_ i : Nat)) (by omega), minI_eq, minI_eq, minI_eq]
      unfold Cells.reach
      omega
    rw [er]
    refine Evp.ob (reachTaps_ok lo (m.reach W H i) m.col M) ?_
    rintro _ rfl
    simp only [ret_int, ret_bool, ret_flt, ret_slc, ret_str, ret_ptr, ret_agg, ret_tup, ob_some, bb_true, bb_false, List.getElem?_cons_zero, List.getElem?_cons_succ, List.length_cons, List.length_nil, Nat.reduceAdd, Nat.reduceLT]
    exact Evp.ret (plane_lines lo W H mh m AT AI AQ n ct ci cq a co Mb hlo f h0 Q i hi h xs hl bx (fun M' hp' hb' => next M' hp' (by unfold Cells.cellS; rw [if_neg h]; exact hb')) _ 0 M rfl (Nat.zero_le _) hp hbuf)
  refine Run.cut (Evp.of_eq (fun k => deblock_Pass.p1045711 k ..) ?_)
  refine Evp.eqb (fun h => Evp.ret (skp (.inl (by omega)))) fun h00 => ?_
  rw [w64 (x := m.tx.getD i 0) (by omega)] at *
  refine Evp.neg (by omega) ?_
  have em : Int.tmod (m.at_ i : Int) (m.tx.getD i 0) = (m.at_ i : Int) % m.tx.getD i 0 := Int.tmod_eq_emod_of_nonneg (by omega)
  rw [em]
  refine Evp.neb (fun h => Evp.ret (skp (.inr (.inl h)))) fun h1 => ?_
  have eb : IntKind.i64.wrap ((i : Int) - (m.back : Nat)) = ((m.prev i : Nat) : Int) := by
    unfold Cells.at_ at h00
    have dm := Nat.div_add_mod i m.mw
    unfold Cells.prev Cells.back
    cases hu : m.up with
    | true =>
      rw [hu] at h00
      simp only [if_true] at h00 ⊢
      have : i % m.mw ≤ i := Nat.mod_le _ _
      rw [w64 (by omega)]; omega
    | false =>
      rw [hu] at h00
      simp only [Bool.false_eq_true, if_false] at h00 ⊢
      have : m.mw * 1 ≤ m.mw * (i / m.mw) := Nat.mul_le_mul_left _ (by omega)
      rw [w64 (by omega)]; omega
  rw [eb]
  simp only [Int.toNat_natCast]
  refine Evp.pos (by omega) (Evp.ldI ri (by omega) fun _ _ => ?_)
  refine Evp.pos (by omega) (Evp.ldI ri (by omega) fun _ _ => ?_)
  refine Evp.eqb (fun h2 => ?_) fun h2 => ?_
  · refine Evp.pos (by omega) (Evp.ldB rq (by omega) fun _ _ => ?_)
    refine Evp.bb (fun h3 => ?_) fun h3 => ?_
    · refine Evp.pos (by omega) (Evp.ldB rq (by omega) fun _ _ => ?_)
      refine Evp.bb (fun h4 => Evp.ret (skp (.inr (.inr ⟨h2, h3, h4⟩)))) fun h4 => ?_
      refine go ?_
      rintro (e | e | e)
      · omega
      · exact e h1
      · rw [h4] at e; cases e.2.2
    · refine go ?_
      rintro (e | e | e)
      · omega
      · exact e h1
      · rw [h3] at e; cases e.2.1
  · refine go ?_
    rintro (e | e | e)
    · omega
    · exact e h1
    · exact h2 e.1
theorem plane_cells (xs : List Int) (hl : xs.length = n) (bx : Bytes xs) (fin : ∀ M, Pre Mb M → Buf Mb M a ((m.passS W H xs m.tx.length).map (Value.int .u8)) → Q (.tuple ⟨[.agg ⟨[.int .i64 W, .int .i64 H, .slice (some a) n co]⟩, .int .i64 0]⟩, M)) :
    ∀ (d i : Nat) (M : Mem), m.tx.length - i = d → i ≤ m.tx.length → Pre Mb M → Buf Mb M a ((m.passS W H xs i).map (Value.int .u8)) →
      Run P T lo F.deblock_Pass (deblock_Pass.c4084 m.up m.col (m.step W : Nat) (m.along W : Nat) (m.back : Nat) (m.side W H : Nat) AT m.tx.length ct m.tx.length i W H (some a) n co m.mw mh AT m.tx.length ct AI m.ids.length ci AQ m.qs.length cq 0 0 none 0 0 (limitS m.level m.sharp) (2 * (m.level + 2) + limitS m.level m.sharp) (m.level / 16) M) Q := by
  obtain ⟨s1, s2⟩ := f.small
  have w512 := f.w512
  have h512 := f.h512
  have hw := f.hW
  have hh := f.hH
  have ht := f.ht
  intro d
  induction d with
  | zero =>
    intro i M hd hi hp hbuf
    obtain rfl : i = m.tx.length := by omega
    refine Run.cut (Evp.of_eq (fun k => deblock_Pass.p4084 k ..) ?_)
    refine Evp.dec (fun h => absurd h (by omega)) fun _ => Evp.ret (Run.ret (fin M hp hbuf))
  | succ d ih =>
    intro i M hd hi hp hbuf
    have hil : i < m.mw * mh := by omega
    obtain ⟨v1, v2, v3⟩ := divmod_lt hil
    have nx : ∀ M, Pre Mb M → Buf Mb M a ((m.cellS W H (m.passS W H xs i) i).map (Value.int .u8)) → Run P T lo F.deblock_Pass (deblock_Pass.c32679 m.up m.col (m.step W : Nat) (m.along W : Nat) (m.back : Nat) (m.side W H : Nat) AT m.tx.length ct m.tx.length i W H (some a) n co m.mw mh AT m.tx.length ct AI m.ids.length ci AQ m.qs.length cq 0 0 none 0 0 (limitS m.level m.sharp) (2 * (m.level + 2) + limitS m.level m.sharp) (m.level / 16) M) Q := fun M' hp' hb' => by
      refine Run.cut (Evp.of_eq (fun k => deblock_Pass.p32679 k ..) ?_)
      rw [w64 (by omega)]
      exact Evp.ret (ih (i + 1) M' (by omega) (by omega) hp' hb')
    have cell := plane_cell lo W H mh m AT AI AQ n ct ci cq a co Mb hlo f h0 Q i hil (m.passS W H xs i) (by rw [m.passS_len]; exact hl) (m.passS_bytes W H bx i) M hp hbuf nx
    have ex : IntKind.i64.wrap (4 * Int.tmod (i : Int) (m.mw : Int)) = ((4 * (i % m.mw) : Nat) : Int) := by
      rw [show Int.tmod (i : Int) (m.mw : Int) = ((i % m.mw : Nat) : Int) from rfl, w64 (by omega)]; omega
    have ey : IntKind.i64.wrap (4 * IntKind.i64.wrap (Int.tdiv (i : Int) (m.mw : Int))) = ((4 * (i / m.mw) : Nat) : Int) := by
      rw [show Int.tdiv (i : Int) (m.mw : Int) = ((i / m.mw : Nat) : Int) from rfl]
      generalize i / m.mw = q at *
      rw [w64 (x := (q : Int)) (by omega), w64 (by omega)]; omega
    refine Run.cut (Evp.of_eq (fun k => deblock_Pass.p4084 k ..) ?_)
    refine Evp.dec (fun _ => ?_) fun h => absurd h (by omega)
    refine Evp.pos (by omega) ?_
    simp only [Int.toNat_natCast]
    refine Evp.ldI (f.rt.pre hp) (by omega) fun _ _ => ?_
    refine Evp.neg (by omega) (Evp.neg (by omega) ?_)
    rw [ex, ey]
    unfold Cells.at_ at cell
    refine Evp.nb (fun hu => ?_) fun hu => ?_
    · rw [if_neg (by rw [hu]; simp)] at cell; exact Evp.ret cell
    · rw [if_pos hu] at cell; exact Evp.ret cell
end
theorem set_self_getD (xs : List Int) (i : Nat) : xs.set i (xs.getD i 0) = xs := by
  by_cases h : i < xs.length
  · refine ext_getD (by simp) fun j hj => ?_
    rw [getD_set h]
    split
    · rename_i e; rw [e]
    · rfl
  · exact List.set_eq_of_length_le (by omega)
theorem putL_id (xs : List Int) (b st n : Nat) : ∀ j, j ≤ n → putL xs b st (secL xs b st n) j = xs
  | 0, _ => rfl
  | j + 1, h => by
    simp only [putL]
    rw [putL_id xs b st n j (by omega)]
    unfold secL
    rw [getD_map_range (by omega)]
    exact set_self_getD xs _
theorem lineS_id {xs : List Int} {b st n : Nat} {level sharp : Int} (h : edgeL (secL xs b st n) level sharp = secL xs b st n) : lineS xs b st n level sharp = xs := by
  unfold lineS
  rw [h]; exact putL_id xs b st n n (Nat.le_refl _)
theorem Cells.pass_zero (m : Cells) (W H : Nat) (h : m.level = 0) (xs : List Int) : ∀ i, m.passS W H xs i = xs
  | 0 => rfl
  | i + 1 => by
    have ll : ∀ k, m.linesS W H xs i k = xs := fun k => by
      induction k with
      | zero => rfl
      | succ k ih =>
        simp only [Cells.linesS]
        rw [ih]
        exact lineS_id (by unfold edgeL; rw [if_neg (fun e => e.1 h)])
    simp only [Cells.passS]
    rw [Cells.pass_zero m W H h xs i]
    unfold Cells.cellS
    rw [ll]; split <;> rfl
section
variable (lo : Nat) (w h mw mh : Int) (m : Cells) (A AT AI AQ : Option Addr) (c ct ci cq : Nat) (xs : List Int) (M : Mem) (hlo : lo ≤ M.length) (hx : RdI M .u8 A xs) (bx : Bytes xs) (hn : xs.length ≤ 140737488351232)
variable (rt : RdI M .u8 AT m.tx) (ri : RdI M .i64 AI m.ids) (rq : RdB M AQ m.qs) (hnt : m.tx.length ≤ 140737488351232) (hm : m.mw = mw.toNat)
include hlo hx bx hn rt ri rq hnt hm
omit hlo hx bx hn hnt in
theorem frame_of (ok : PassOk w h xs.length mw mh m.tx m.ids.length m.qs.length m.level m.sharp) : ∃ W H mhn : Nat, w = W ∧ h = H ∧ mw = m.mw ∧ mh = mhn ∧ PassF m W H mhn xs.length AT AI AQ M ∧ 1 ≤ xs.length ∧ m.tx.length = m.mw * mhn := by
  obtain ⟨⟨k1, k2, k3, k4, k5, k6, k7, k8, k9⟩, l0, l1, p0, p1⟩ := ok
  have s1 := checkS_len' k1
  obtain ⟨W, rfl⟩ := Int.eq_ofNat_of_zero_le (a := w) (by omega)
  obtain ⟨H, rfl⟩ := Int.eq_ofNat_of_zero_le (a := h) (by omega)
  have n1 : xs.length = H * W := by have := s1.2.2.2.2; rw [← Int.natCast_mul, Nat.mul_comm] at this; omega
  have e1 : mw = (m.mw : Int) := by omega
  obtain ⟨mhn, rfl⟩ := Int.eq_ofNat_of_zero_le (a := mh) (by omega)
  rw [e1, ← Int.natCast_mul] at k6 k7 k8
  have pos : 1 * 1 ≤ H * W := Nat.mul_le_mul (by omega) (by omega)
  exact ⟨W, H, mhn, rfl, rfl, e1, rfl, ⟨by omega, by omega, by omega, by omega, n1, by omega, by omega, by omega, k9, rt, ri, rq, ⟨l0, l1⟩, ⟨p0, p1⟩⟩, by omega, by omega⟩
theorem pass_ok : Ac P T lo F.deblock_Pass [.agg ⟨[.int .i64 w, .int .i64 h, .slice A xs.length c]⟩, .agg ⟨[.int .i64 mw, .int .i64 mh, .slice AT m.tx.length ct, .slice AI m.ids.length ci, .slice AQ m.qs.length cq]⟩, .bool m.up, .bool m.col, .int .i64 m.level, .int .i64 m.sharp] M (PassR M w h xs m mw mh) := by
  have bad : ∀ M', Pre M M' → ¬ PassOk w h xs.length mw mh m.tx m.ids.length m.qs.length m.level m.sharp → Run P T lo F.deblock_Pass (.ret (.tuple ⟨[.agg ⟨[.int .i64 0, .int .i64 0, .slice none 0 0]⟩, .int .i64 2]⟩) M') (PassR M w h xs m mw mh) := fun M' hp hno => Run.ret ⟨hp, by rw [if_neg hno]⟩
  refine Ac.of (Evp.of_eq (fun k => deblock_Pass.entry k ..) ?_)
  refine Evp.ob (may_ok lo w h mw mh A AT AI AQ xs.length c ct m.ids.length ci m.qs.length cq m.tx M hlo rt hnt) ?_
  rintro _ ⟨M1, rfl, p1⟩
  simp only [ret_int, ret_bool, ret_flt, ret_slc, ret_str, ret_ptr, ret_agg, ret_tup, ob_some, bb_true, bb_false, List.getElem?_cons_zero, List.getElem?_cons_succ, List.length_cons, List.length_nil, Nat.reduceAdd, Nat.reduceLT]
  refine Evp.nb (fun g => Evp.ret (bad M1 p1 fun e => of_decide_eq_false g e.1)) fun k1 => ?_
  have k1 := of_decide_eq_true k1
  refine Evp.ob (within_ok ..) ?_
  rintro _ rfl
  simp only [ret_int, ret_bool, ret_flt, ret_slc, ret_str, ret_ptr, ret_agg, ret_tup, ob_some, bb_true, bb_false, List.getElem?_cons_zero, List.getElem?_cons_succ, List.length_cons, List.length_nil, Nat.reduceAdd, Nat.reduceLT]
  refine Evp.nb (fun g => Evp.ret (bad M1 p1 fun e => of_decide_eq_false g ⟨e.2.1, e.2.2.1⟩)) fun k2 => ?_
  have k2 := of_decide_eq_true k2
  refine Evp.ob (within_ok ..) ?_
  rintro _ rfl
  simp only [ret_int, ret_bool, ret_flt, ret_slc, ret_str, ret_ptr, ret_agg, ret_tup, ob_some, bb_true, bb_false, List.getElem?_cons_zero, List.getElem?_cons_succ, List.length_cons, List.length_nil, Nat.reduceAdd, Nat.reduceLT]
  refine Evp.nb (fun g => Evp.ret (bad M1 p1 fun e => of_decide_eq_false g ⟨e.2.2.2.1, e.2.2.2.2⟩)) fun k3 => ?_
  have k3 := of_decide_eq_true k3
  have ok : PassOk w h xs.length mw mh m.tx m.ids.length m.qs.length m.level m.sharp := ⟨k1, k2.1, k2.2, k3.1, k3.2⟩
  obtain ⟨W, H, mhn, rfl, rfl, rfl, rfl, f, n0, tl⟩ := frame_of w h mw mh m AT AI AQ xs M rt ri rq hm ok
  refine Evp.ob (clone_ok lo A c xs M1 (hx.pre p1) (by omega) (by omega) (Nat.le_trans hlo p1.len)) ?_
  rintro _ ⟨a, co, M2, rfl, p2, hco, b2⟩
  simp only [ret_int, ret_bool, ret_flt, ret_slc, ret_str, ret_ptr, ret_agg, ret_tup, ob_some, bb_true, bb_false, List.getElem?_cons_zero, List.getElem?_cons_succ, List.length_cons, List.length_nil, Nat.reduceAdd, Nat.reduceLT]
  have q2 := p1.trans p2
  have b2' := b2.floor (M0 := M) p1.len
  refine Evp.eqb (fun e0 => Evp.ret (Run.ret ⟨q2, ?_⟩)) fun e0 => ?_
  · rw [if_pos ok]
    refine ⟨a, co, rfl, hco, ?_⟩
    rw [m.pass_zero _ _ e0]; exact b2'
  refine Evp.ob (bounds_ok _ _ _ _ k2 k3) ?_
  rintro _ rfl
  simp only [ret_int, ret_bool, ret_flt, ret_slc, ret_str, ret_ptr, ret_agg, ret_tup, ob_some, bb_true, bb_false, List.getElem?_cons_zero, List.getElem?_cons_succ, List.length_cons, List.length_nil, Nat.reduceAdd, Nat.reduceLT]
  have end_ : ∀ M', Pre M M' → Buf M M' a ((m.passS W H xs m.tx.length).map (Value.int .u8)) → PassR M W H xs m (m.mw : Nat) mhn (.tuple ⟨[.agg ⟨[.int .i64 W, .int .i64 H, .slice (some a) xs.length co]⟩, .int .i64 0]⟩, M') := fun M' hp hb => ⟨hp, by
    rw [if_pos ok]
    exact ⟨a, co, rfl, hco, hb⟩⟩
  have loop := plane_cells lo W H mhn m AT AI AQ xs.length ct ci cq a co M hlo f e0 _ xs rfl bx end_ _ 0 M2 rfl (Nat.zero_le _) q2 b2'
  refine Evp.nb (fun hu => ?_) fun hu => ?_
  · refine Evp.ret ?_
    refine Run.cut (Evp.of_eq (fun k => deblock_Pass.p255 k ..) ?_)
    unfold Cells.step Cells.along Cells.back Cells.side at loop
    rw [hu] at loop ⊢
    exact Evp.ret loop
  · refine Evp.ret ?_
    refine Run.cut (Evp.of_eq (fun k => deblock_Pass.p255 k ..) ?_)
    unfold Cells.step Cells.along Cells.back Cells.side at loop
    rw [hu] at loop ⊢
    exact Evp.ret loop
end
theorem PassR.got {M M' : Mem} {w h mw mh : Int} {xs : List Int} {m : Cells} {v : Value} (hr : PassR M w h xs m mw mh (v, M')) (hk : PassOk w h xs.length mw mh m.tx m.ids.length m.qs.length m.level m.sharp) :
    ∃ a cc, v = .tuple ⟨[.agg ⟨[.int .i64 w, .int .i64 h, .slice (some a) xs.length cc]⟩, .int .i64 0]⟩ ∧ Pre M M' ∧ xs.length ≤ cc ∧ Buf M M' a ((m.passS w.toNat h.toNat xs m.tx.length).map (Value.int .u8)) := by
  obtain ⟨p, h⟩ := hr
  rw [if_pos hk] at h
  obtain ⟨a, cc, e, b⟩ := h
  exact ⟨a, cc, e, p, b⟩
theorem PassR.not {M M' : Mem} {w h mw mh : Int} {xs : List Int} {m : Cells} {v : Value} (hr : PassR M w h xs m mw mh (v, M')) (hk : ¬ PassOk w h xs.length mw mh m.tx m.ids.length m.qs.length m.level m.sharp) :
    v = .tuple ⟨[.agg ⟨[.int .i64 0, .int .i64 0, .slice none 0 0]⟩, .int .i64 2]⟩ ∧ Pre M M' := by
  obtain ⟨p, h⟩ := hr
  rw [if_neg hk] at h
  exact ⟨h, p⟩
end Go.Zt
