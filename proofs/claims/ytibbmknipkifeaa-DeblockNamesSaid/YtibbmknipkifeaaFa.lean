/- Functions of the layer: samples across an edge, bounds. -/
import Derived.Test.YtibbmknipkifeaaAb31
import Derived.Test.YtibbmknipkifeaaEq1
import Derived.Test.YtibbmknipkifeaaEq2
import Derived.KernelRfl
set_option linter.unusedVariables false
set_option linter.unusedSimpArgs false
namespace Go.Zt
def Bytes (xs : List Int) : Prop := ∀ x ∈ xs, 0 ≤ x ∧ x ≤ 255
theorem Bytes.get {xs : List Int} (h : Bytes xs) (i : Nat) : 0 ≤ xs.getD i 0 ∧ xs.getD i 0 ≤ 255 := by
  rw [List.getD_eq_getElem?_getD]
  cases hx : xs[i]? with
  | none => simp
  | some x => simpa using h x (List.mem_of_getElem? hx)
theorem eq_of_getD {xs ys : List Int} (hl : xs.length = ys.length) (h : ∀ i, i < xs.length → xs.getD i 0 = ys.getD i 0) : xs = ys := by
  apply List.ext_getElem hl
  intro i h1 h2
  have := h i h1
  simpa [List.getD_eq_getElem?_getD, List.getElem?_eq_getElem h1, List.getElem?_eq_getElem h2] using this

theorem Grow.rdI {M0 M : Mem} {A : Option Addr} {k : IntKind} {xs : List Int} (h : Grow M0 M 1 A xs.length (xs.map (Value.int k))) : RdI M k A xs := h.rd
theorem eqBytes_loop (lo : Nat) (A A' : Option Addr) (c c' : Nat) (xs ys : List Int) (M : Mem) (hx : RdI M .u8 A xs) (hy : RdI M .u8 A' ys) (hl : xs.length = ys.length) (hn : xs.length ≤ 140737488351232) :
    ∀ (d i : Nat), xs.length - i = d → i ≤ xs.length → (∀ j, j < i → xs.getD j 0 = ys.getD j 0) → Run P T lo F.zoetroperef00_EqBytes (zoetroperef00_EqBytes.c116 A xs.length c A' ys.length c' i M) fun r => r = (.bool (decide (xs = ys)), M) := by
  intro d
  induction d with
  | zero =>
    intro i hd hi hj
    refine Run.cut (Evp.of_eq (fun k => zoetroperef00_EqBytes.p116 k ..) ?_)
    refine Evp.dec (fun h => absurd h (by omega)) fun _ => Evp.ret (Run.ret ?_)
    rw [decide_eq_true (eq_of_getD hl fun j h => hj j (by omega))]
  | succ d ih =>
    intro i hd hi hj
    refine Run.cut (Evp.of_eq (fun k => zoetroperef00_EqBytes.p116 k ..) ?_)
    refine Evp.dec (fun _ => ?_) fun h => absurd h (by omega)
    refine Evp.pos (by omega) ?_
    simp only [Int.toNat_natCast]
    refine Evp.ldI hx (by omega) fun a _ => ?_
    refine Evp.pos (by omega) ?_
    refine Evp.ldI hy (by omega) fun a' _ => ?_
    refine Evp.neb (fun hne => Evp.ret (Run.ret ?_)) fun he => ?_
    · rw [decide_eq_false (fun e => hne (by rw [e]))]
    · rw [w64 (by omega)]
      exact Evp.ret (ih (i + 1) (by omega) (by omega) fun j h => by
        by_cases hji : j = i
        · subst hji; exact he
        · exact hj j (by omega))
theorem eqBytes_ok (lo : Nat) (A A' : Option Addr) (c c' : Nat) (xs ys : List Int) (M : Mem) (hx : RdI M .u8 A xs) (hy : RdI M .u8 A' ys) (hn : xs.length ≤ 140737488351232) :
    Ac P T lo F.zoetroperef00_EqBytes [.slice A xs.length c, .slice A' ys.length c'] M fun r => r = (.bool (decide (xs = ys)), M) := by
  refine Ac.of (Evp.of_eq (fun k => zoetroperef00_EqBytes.entry k ..) ?_)
  refine Evp.neb (fun h => Evp.ret (Run.ret ?_)) fun h => ?_
  · rw [decide_eq_false (fun e => h (by rw [e]))]
  · exact Evp.ret (eqBytes_loop lo A A' c c' xs ys M hx hy (by omega) hn _ 0 rfl (by omega) fun j h => by omega)

theorem copyBytes_ok (lo : Nat) (A : Option Addr) (c : Nat) (xs : List Int) (M : Mem) (hx : RdI M .u8 A xs) (hn : xs.length ≤ 140737488351232) (hlo : lo ≤ M.length) :
    Ac P T lo F.zoetroperef00_CopyBytes [.slice A xs.length c] M fun r => ∃ A' c' M', r = (.slice A' xs.length c', M') ∧ Pre M M' ∧ xs.length ≤ c' ∧ Grow M M' 1 A' xs.length (xs.map (Value.int .u8)) := by
  refine Ac.of (Evp.of_eq (fun k => zoetroperef00_CopyBytes.entry k ..) ?_)
  refine Evp.some hx.src ?_
  obtain ⟨s, M', h1, h2, h3, h4, _, h5⟩ := (Grow.nil (M0 := M) (M := M) (z := 1)).app (bytes := 1) (c := 0) (m := xs.length) (vs := xs.map (Value.int .u8)) (Pre.refl M) hlo (by simp) (by omega) (by omega)
  rw [Nat.zero_add] at h3
  refine Evp.some h1 (Evp.ret (Run.ret ⟨s.a, s.c, M', ?_, h4, by rw [← h3]; exact h5 (Nat.zero_le _), ?_⟩))
  · simp only [h3]
  · rw [h3] at h2; exact h2
def bringS (i n : Int) : Int := if n ≤ 0 then 0 else i % n
theorem bring_ok (lo : Nat) (i n : Int) (M : Mem) (hn : n ≤ 9223372036854775807) : Ac P T lo F.zoetroperef00_Bring [.int .i64 i, .int .i64 n] M fun r => r = (.int .i64 (bringS i n), M) := by
  refine Ac.of (Evp.of_eq (fun k => zoetroperef00_Bring.entry k ..) ?_)
  unfold bringS
  refine Evp.dec (fun h => Evp.ret (Run.ret (by rw [if_pos h]))) fun h => ?_
  rw [if_neg h]
  refine Evp.neg (by omega) ?_
  have h1 : Int.tmod i n = if i % n = 0 ∨ 0 ≤ i then i % n else i % n - n := by
    rw [Int.tmod_eq_emod]
    by_cases h2 : 0 ≤ i ∨ n ∣ i
    · rw [if_pos h2, if_pos (by rcases h2 with h2 | h2; exact .inr h2; exact .inl (Int.emod_eq_zero_of_dvd h2))]; omega
    · rw [if_neg h2, if_neg (by rintro (h3 | h3); exact h2 (.inr (Int.dvd_of_emod_eq_zero h3)); exact h2 (.inl h3))]; omega
  have h2 := Int.emod_nonneg i (b := n) (by omega)
  have h3 := Int.emod_lt_of_pos i (b := n) (by omega)
  refine Evp.dec (fun h4 => Evp.ret ?_) fun h4 => Evp.ret ?_
  · refine Run.cut (Evp.of_eq (fun k => zoetroperef00_Bring.p31 k ..) ?_)
    refine Evp.ret (Run.ret ?_)
    have e : Int.tmod i n + n = i % n := by
      rw [h1] at h4 ⊢
      split at h4
      · omega
      · rename_i h5; rw [if_neg h5]; omega
    rw [e, w64 (by omega)]
  · refine Run.cut (Evp.of_eq (fun k => zoetroperef00_Bring.p31 k ..) ?_)
    refine Evp.ret (Run.ret ?_)
    have e : Int.tmod i n = i % n := by
      rw [h1] at h4 ⊢
      split at h4
      · rename_i h5; rw [if_pos h5]
      · omega
    rw [e]
theorem bringS_lt {i n : Int} (h : 0 < n) : 0 ≤ bringS i n ∧ bringS i n < n := by
  unfold bringS
  rw [if_neg (by omega)]
  exact ⟨Int.emod_nonneg i (by omega), Int.emod_lt_of_pos i h⟩
def clipS (v a b : Int) : Int := if v < a then a else if v > b then b else v
theorem clip_ok (lo : Nat) (v a b : Int) (M : Mem) : Ac P T lo F.zoetroperef00_Clip [.int .i64 v, .int .i64 a, .int .i64 b] M fun r => r = (.int .i64 (clipS v a b), M) := by
  refine Ac.of (Evp.of_eq (fun k => zoetroperef00_Clip.entry k ..) ?_)
  unfold clipS
  refine Evp.dec (fun h => Evp.ret (Run.ret (by rw [if_pos h]))) fun h => ?_
  rw [if_neg h]
  refine Evp.dec (fun h => Evp.ret (Run.ret (by rw [if_pos h]))) fun h => Evp.ret (Run.ret (by rw [if_neg h]))
theorem minmax_clip {v a b : Int} (h : a ≤ b) : minI (maxI v a) b = clipS v a b := by
  unfold minI maxI clipS; repeat' split
  all_goals omega
theorem clipS_le {v a b : Int} (h : a ≤ b) : a ≤ clipS v a b ∧ clipS v a b ≤ b := by
  unfold clipS; split
  · omega
  · split <;> omega
def absS (d : Int) : Int := if d < 0 then -d else d
theorem abs_ok (lo : Nat) (d : Int) (M : Mem) (hd : -9223372036854775807 ≤ d) : Ac P T lo F.zoetroperef00_Abs [.int .i64 d] M fun r => r = (.int .i64 (absS d), M) := by
  refine Ac.of (Evp.of_eq (fun k => zoetroperef00_Abs.entry k ..) ?_)
  refine Evp.dec (fun h => ?_) fun h => ?_
  · rw [w64 (by omega)]
    refine Evp.ret (Run.ret ?_)
    unfold absS; rw [if_pos h, Int.zero_sub]
  · refine Evp.ret (Run.ret ?_)
    unfold absS; rw [if_neg h]
theorem far_ok (lo : Nat) (x y : Int) (M : Mem) (hx : 0 ≤ x ∧ x ≤ 255) (hy : 0 ≤ y ∧ y ≤ 255) : Ac P T lo F.deblock_far [.int .u8 x, .int .u8 y] M fun r => r = (.int .i64 (absS (x - y)), M) := by
  refine Ac.of (Evp.of_eq (fun k => deblock_far.entry k ..) ?_)
  rw [w64 (x := x) (by omega), w64 (x := y) (by omega), w64 (x := x - y) (by omega), w64 (x := y - x) (by omega)]
  refine Evp.ret (Run.ret ?_)
  congr 2
  unfold maxI absS
  split <;> split <;> omega
/-- The sample at a place across an edge. -/
def atE (xs : List Int) (i : Int) : Int := xs.getD (((xs.length / 2 : Nat) : Int) + i).toNat 0
def farE (xs : List Int) (i k : Int) : Int := absS (atE xs i - atE xs k)
section
variable (lo : Nat) (A : Option Addr) (c : Nat) (xs : List Int) (M : Mem)
theorem rat_ok (hx : RdI M .u8 A xs) (bx : Bytes xs) (hn : xs.length ≤ 1000) (i : Int) (h0 : 0 ≤ ((xs.length / 2 : Nat) : Int) + i) (h1 : ((xs.length / 2 : Nat) : Int) + i < xs.length) : Ac P T lo F.zoetroperef22_at [.slice A xs.length c, .int .i64 i] M fun r => r = (.int .i64 (atE xs i), M) := by
  have e : Int.tdiv (xs.length : Int) 2 = ((xs.length / 2 : Nat) : Int) := rfl
  refine Ac.of (Evp.of_eq (fun k => zoetroperef22_at.entry k ..) ?_)
  rw [e, w64 (x := ((xs.length / 2 : Nat) : Int)) (by omega), w64 (x := ((xs.length / 2 : Nat) : Int) + i) (by omega)]
  refine Evp.pos (by omega) (Evp.ldI hx (by omega) fun _ _ => ?_)
  have := bx.get (((xs.length / 2 : Nat) : Int) + i).toNat
  rw [w64 (by omega)]
  exact Evp.ret (Run.ret rfl)
theorem atE_le (bx : Bytes xs) (i : Int) : 0 ≤ atE xs i ∧ atE xs i ≤ 255 := bx.get _
theorem rfar_ok (hx : RdI M .u8 A xs) (bx : Bytes xs) (hn : xs.length ≤ 1000) (i k : Int) (h0 : 0 ≤ ((xs.length / 2 : Nat) : Int) + i) (h1 : ((xs.length / 2 : Nat) : Int) + i < xs.length) (h2 : 0 ≤ ((xs.length / 2 : Nat) : Int) + k) (h3 : ((xs.length / 2 : Nat) : Int) + k < xs.length) :
    Ac P T lo F.zoetroperef22_far [.slice A xs.length c, .int .i64 i, .int .i64 k] M fun r => r = (.int .i64 (farE xs i k), M) := by
  refine Ac.of (Evp.of_eq (fun k => zoetroperef22_far.entry k ..) ?_)
  refine Evp.ob (rat_ok _ _ _ _ _ hx bx hn i h0 h1) ?_
  rintro _ rfl
  simp only [ret_int, ret_bool, ret_flt, ret_slc, ret_str, ret_ptr, ret_agg, ret_tup, ob_some, bb_true, bb_false, List.getElem?_cons_zero, List.getElem?_cons_succ, List.length_cons, List.length_nil, Nat.reduceAdd, Nat.reduceLT]
  refine Evp.ob (rat_ok _ _ _ _ _ hx bx hn k h2 h3) ?_
  rintro _ rfl
  simp only [ret_int, ret_bool, ret_flt, ret_slc, ret_str, ret_ptr, ret_agg, ret_tup, ob_some, bb_true, bb_false, List.getElem?_cons_zero, List.getElem?_cons_succ, List.length_cons, List.length_nil, Nat.reduceAdd, Nat.reduceLT]
  have a1 := atE_le xs bx i
  have a2 := atE_le xs bx k
  rw [w64 (x := atE xs i - atE xs k) (by omega)]
  refine Evp.ob (abs_ok _ _ _ (by omega)) ?_
  rintro _ rfl
  simp only [ret_int, ret_bool, ret_flt, ret_slc, ret_str, ret_ptr, ret_agg, ret_tup, ob_some, bb_true, bb_false, List.getElem?_cons_zero, List.getElem?_cons_succ, List.length_cons, List.length_nil, Nat.reduceAdd, Nat.reduceLT]
  exact Evp.ret (Run.ret rfl)
theorem p_ok (hx : RdI M .u8 A xs) (hn : xs.length ≤ 1000) (i : Int) (h0 : 0 ≤ i) (h1 : i < ((xs.length / 2 : Nat) : Int)) : Ac P T lo F.deblock_line_p [.agg ⟨[.slice A xs.length c, .int .i64 ((xs.length / 2 : Nat) : Int)]⟩, .int .i64 i] M fun r => r = (.int .u8 (atE xs (-1 - i)), M) := by
  refine Ac.of (Evp.of_eq (fun k => deblock_line_p.entry k ..) ?_)
  rw [w64 (x := ((xs.length / 2 : Nat) : Int) - 1) (by omega), w64 (x := ((xs.length / 2 : Nat) : Int) - 1 - i) (by omega)]
  refine Evp.pos (by omega) (Evp.ldI hx (by omega) fun _ _ => ?_)
  refine Evp.ret (Run.ret ?_)
  unfold atE
  rw [show ((xs.length / 2 : Nat) : Int) + (-1 - i) = ((xs.length / 2 : Nat) : Int) - 1 - i by omega]
theorem q_ok (hx : RdI M .u8 A xs) (hn : xs.length ≤ 1000) (i : Int) (h0 : 0 ≤ i) (h1 : i < ((xs.length / 2 : Nat) : Int)) : Ac P T lo F.deblock_line_q [.agg ⟨[.slice A xs.length c, .int .i64 ((xs.length / 2 : Nat) : Int)]⟩, .int .i64 i] M fun r => r = (.int .u8 (atE xs i), M) := by
  refine Ac.of (Evp.of_eq (fun k => deblock_line_q.entry k ..) ?_)
  rw [w64 (x := ((xs.length / 2 : Nat) : Int) + i) (by omega)]
  refine Evp.pos (by omega) (Evp.ldI hx (by omega) fun _ _ => ?_)
  exact Evp.ret (Run.ret rfl)
/-! ### Flat sides -/
def flatE (xs : List Int) (f : Int) : Nat → Prop
  | 0 => True
  | n + 1 => flatE xs f n ∧ farE xs (-1 - (f + n)) (-1) ≤ 1 ∧ farE xs (f + n) 0 ≤ 1
end
def limitS (level sharp : Int) : Int := maxI (if sharp > 4 then minI (level / 4) (9 - sharp) else if sharp > 0 then minI (level / 2) (9 - sharp) else level) 1
theorem bounds_ok (lo : Nat) (level sharp : Int) (M : Mem) (hl : 0 ≤ level ∧ level ≤ 63) (hs : 0 ≤ sharp ∧ sharp ≤ 7) : Ac P T lo F.deblock_boundsOf [.int .i64 level, .int .i64 sharp] M fun r => r = (.agg ⟨[.int .i64 (limitS level sharp), .int .i64 (2 * (level + 2) + limitS level sharp), .int .i64 (level / 16)]⟩, M) := by
  have s2 : shrI .i64 level 2 = level / 4 := by rw [shr_eq 2 (by omega)]; rfl
  have s1 : shrI .i64 level 1 = level / 2 := by rw [shr_eq 1 (by omega)]; rfl
  have s4 : shrI .i64 level 4 = level / 16 := by rw [shr_eq 4 (by omega)]; rfl
  have fin : ∀ z : Int, -100 ≤ z ∧ z ≤ 100 → maxI z 1 = limitS level sharp → Run P T lo F.deblock_boundsOf (deblock_boundsOf.c15 level z 0 0 0 M) fun r => r = (.agg ⟨[.int .i64 (limitS level sharp), .int .i64 (2 * (level + 2) + limitS level sharp), .int .i64 (level / 16)]⟩, M) := fun z hz e => by
    refine Run.cut (Evp.of_eq (fun k => deblock_boundsOf.p15 k ..) ?_)
    have hb : -100 ≤ maxI z 1 ∧ maxI z 1 ≤ 100 := by unfold maxI; split <;> omega
    rw [s4, w64 (x := level + 2) (by omega), w64 (x := 2 * (level + 2)) (by omega), w64 (x := 2 * (level + 2) + maxI z 1) (by omega), e]
    exact Evp.ret (Run.ret rfl)
  have hm : ∀ z : Int, 0 ≤ z ∧ z ≤ 63 → -100 ≤ minI z (9 - sharp) ∧ minI z (9 - sharp) ≤ 100 := fun z hz => by unfold minI; split <;> omega
  refine Ac.of (Evp.of_eq (fun k => deblock_boundsOf.entry k ..) ?_)
  rw [s2, s1, w64 (x := 9 - sharp) (by omega)]
  refine Evp.dec (fun h1 => Evp.ret (fin _ (hm _ (by omega)) (by unfold limitS; rw [if_pos h1]))) fun h1 => ?_
  refine Evp.dec (fun h2 => Evp.ret (fin _ (hm _ (by omega)) (by unfold limitS; rw [if_neg h1, if_pos h2]))) fun h2 => ?_
  exact Evp.ret (fin _ (by omega) (by unfold limitS; rw [if_neg h1, if_neg h2]))
theorem rlimit_ok (lo : Nat) (level sharp : Int) (M : Mem) (hl : 0 ≤ level ∧ level ≤ 63) (hs : 0 ≤ sharp ∧ sharp ≤ 7) : Ac P T lo F.zoetroperef22_limit [.int .i64 level, .int .i64 sharp] M fun r => r = (.int .i64 (limitS level sharp), M) := by
  have t4 : Int.tdiv level 4 = level / 4 := Int.tdiv_eq_ediv_of_nonneg hl.1
  have t2 : Int.tdiv level 2 = level / 2 := Int.tdiv_eq_ediv_of_nonneg hl.1
  have fin : ∀ z : Int, maxI z 1 = limitS level sharp → Run P T lo F.zoetroperef22_limit (zoetroperef22_limit.c31 z M) fun r => r = (.int .i64 (limitS level sharp), M) := fun z e => by
    refine Run.cut (Evp.of_eq (fun k => zoetroperef22_limit.p31 k ..) ?_)
    rw [e]; exact Evp.ret (Run.ret rfl)
  refine Ac.of (Evp.of_eq (fun k => zoetroperef22_limit.entry k ..) ?_)
  rw [t4, t2, w64 (x := level / 4) (by omega), w64 (x := level / 2) (by omega)]
  refine Evp.dec (fun h1 => Evp.ret ?_) fun h1 => ?_
  · refine Run.cut (Evp.of_eq (fun k => zoetroperef22_limit.p15 k ..) ?_)
    refine Evp.dec (fun _ => ?_) fun h => absurd h (by omega)
    rw [w64 (x := 9 - sharp) (by omega)]
    exact Evp.ret (fin _ (by unfold limitS; rw [if_pos h1]))
  refine Evp.dec (fun h2 => Evp.ret ?_) fun h2 => ?_
  · refine Run.cut (Evp.of_eq (fun k => zoetroperef22_limit.p15 k ..) ?_)
    refine Evp.dec (fun _ => ?_) fun h => absurd h (by omega)
    rw [w64 (x := 9 - sharp) (by omega)]
    exact Evp.ret (fin _ (by unfold limitS; rw [if_neg h1, if_pos h2]))
  refine Evp.ret ?_
  refine Run.cut (Evp.of_eq (fun k => zoetroperef22_limit.p15 k ..) ?_)
  refine Evp.dec (fun h => absurd h (by omega)) fun _ => ?_
  exact Evp.ret (fin _ (by unfold limitS; rw [if_neg h1, if_neg h2]))
end Go.Zt
