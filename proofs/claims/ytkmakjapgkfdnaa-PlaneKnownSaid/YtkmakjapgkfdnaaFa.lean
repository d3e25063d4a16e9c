/- Functions of the layer: planes, lists of bytes. -/
import Derived.Test.YtkmakjapgkfdnaaAb31
import Derived.Test.YtkmakjapgkfdnaaEq1
import Derived.Test.YtkmakjapgkfdnaaEq2
import Derived.KernelRfl
set_option linter.unusedVariables false
set_option linter.unusedSimpArgs false
namespace Go.Zt
def Bytes (xs : List Int) : Prop := ∀ x ∈ xs, 0 ≤ x ∧ x ≤ 255
theorem Bytes.get {xs : List Int} (h : Bytes xs) (i : Nat) : 0 ≤ xs.getD i 0 ∧ xs.getD i 0 ≤ 255 := by
  rw [List.getD_eq_getElem?_getD]
  cases hx : xs[i]? with
  | none => simp
  | some x => simpa using h x (List.mem_of_getElem? hx)
theorem eq_of_getD {xs ys : List Int} (hl : xs.length = ys.length) (h : ∀ i, i < xs.length → xs.getD i 0 = ys.getD i 0) : xs = ys := by
  apply List.ext_getElem hl
  intro i h1 h2
  have := h i h1
  simpa [List.getD_eq_getElem?_getD, List.getElem?_eq_getElem h1, List.getElem?_eq_getElem h2] using this

theorem Grow.rdI {M0 M : Mem} {A : Option Addr} {k : IntKind} {xs : List Int} (h : Grow M0 M 1 A xs.length (xs.map (Value.int k))) : RdI M k A xs := h.rd
theorem sizes_ok (lo : Nat) (w h : Int) (M : Mem) : Ac P T lo F.plane_sizes [.int .i64 w, .int .i64 h] M fun r => r = (.bool (decide (1 ≤ w ∧ w ≤ 512 ∧ 1 ≤ h ∧ h ≤ 512)), M) := by
  refine Ac.of (Evp.of_eq (fun k => plane_sizes.entry k ..) ?_)
  refine Evp.dec (fun h1 => ?_) fun h1 => ?_
  · refine Evp.dec (fun h2 => ?_) fun h2 => ?_
    · refine Evp.dec (fun h3 => ?_) fun h3 => ?_
      · refine Evp.ret (Run.ret ?_)
        congr 2
        exact decide_eq_decide.2 (by omega)
      · refine Evp.ret (Run.ret ?_)
        congr 2
        simp; omega
    · refine Evp.ret (Run.ret ?_)
      congr 2
      simp; omega
  · refine Evp.ret (Run.ret ?_)
    congr 2
    simp; omega

def checkS (w h n : Int) : Int := if 1 ≤ w ∧ w ≤ 512 ∧ 1 ≤ h ∧ h ≤ 512 ∧ n = w * h then 0 else 2
theorem area {w h : Int} (h1 : 1 ≤ w ∧ w ≤ 512 ∧ 1 ≤ h ∧ h ≤ 512) : 1 ≤ w * h ∧ w * h ≤ 262144 := by
  have hm : w * h ≤ 512 * 512 := Int.mul_le_mul h1.2.1 h1.2.2.2 (by omega) (by omega)
  have hm0 : 1 * 1 ≤ w * h := Int.mul_le_mul h1.1 h1.2.2.1 (by omega) (by omega)
  omega

theorem check_ok (lo : Nat) (w h : Int) (A : Option Addr) (n c : Nat) (M : Mem) : Ac P T lo F.plane_Check [.agg ⟨[.int .i64 w, .int .i64 h, .slice A n c]⟩] M fun r => r = (.int .i64 (checkS w h n), M) := by
  refine Ac.of (Evp.of_eq (fun k => plane_Check.entry k ..) ?_)
  refine Evp.ob (sizes_ok ..) ?_
  rintro _ rfl
  simp only [ret_int, ret_bool, ret_flt, ret_slc, ret_str, ret_ptr, ret_agg, ret_tup, ob_some, bb_true, bb_false, List.getElem?_cons_zero, List.getElem?_cons_succ, List.length_cons, List.length_nil, Nat.reduceAdd, Nat.reduceLT]
  refine Evp.nb (fun h1 => ?_) fun h1 => ?_
  · refine Evp.ret (Run.ret ?_)
    have := of_decide_eq_false h1
    unfold checkS
    rw [if_neg (by omega)]
  · have h1 := of_decide_eq_true h1
    have hm := area h1
    rw [w64 (by omega)]
    refine Evp.neb (fun h2 => ?_) fun h2 => ?_
    · refine Evp.ret (Run.ret ?_)
      unfold checkS
      rw [if_neg (by omega)]
    · refine Evp.ret (Run.ret ?_)
      unfold checkS
      rw [if_pos (by omega)]

theorem rcheck_ok (lo : Nat) (w h : Int) (A : Option Addr) (n c : Nat) (M : Mem) : Ac P T lo F.zoetroperef05_Check [.agg ⟨[.int .i64 w, .int .i64 h, .slice A n c]⟩] M fun r => r = (.int .i64 (checkS w h n), M) := by
  refine Ac.of (Evp.of_eq (fun k => zoetroperef05_Check.entry k ..) ?_)
  refine Evp.dec (fun h1 => Evp.ret (Run.ret (by unfold checkS; rw [if_neg (by omega)]))) fun h1 => ?_
  refine Evp.dec (fun h2 => Evp.ret (Run.ret (by unfold checkS; rw [if_neg (by omega)]))) fun h2 => ?_
  refine Evp.dec (fun h3 => Evp.ret (Run.ret (by unfold checkS; rw [if_neg (by omega)]))) fun h3 => ?_
  refine Evp.dec (fun h4 => Evp.ret (Run.ret (by unfold checkS; rw [if_neg (by omega)]))) fun h4 => ?_
  have hm := area (w := w) (h := h) (by omega)
  rw [w64 (by omega)]
  refine Evp.neb (fun h5 => ?_) fun h5 => ?_
  · exact Evp.ret (Run.ret (by unfold checkS; rw [if_neg (by omega)]))
  · exact Evp.ret (Run.ret (by unfold checkS; rw [if_pos (by omega)]))

theorem checkS_len' {w h n : Int} (h0 : checkS w h n = 0) : 1 ≤ w ∧ w ≤ 512 ∧ 1 ≤ h ∧ h ≤ 512 ∧ n = w * h := by
  unfold checkS at h0
  split at h0
  · assumption
  · omega
theorem eqBytes_loop (lo : Nat) (A A' : Option Addr) (c c' : Nat) (xs ys : List Int) (M : Mem) (hx : RdI M .u8 A xs) (hy : RdI M .u8 A' ys) (hl : xs.length = ys.length) (hn : xs.length ≤ 140737488351232) :
    ∀ (d i : Nat), xs.length - i = d → i ≤ xs.length → (∀ j, j < i → xs.getD j 0 = ys.getD j 0) → Run P T lo F.zoetroperef00_EqBytes (zoetroperef00_EqBytes.c116 A xs.length c A' ys.length c' i M) fun r => r = (.bool (decide (xs = ys)), M) := by
  intro d
  induction d with
  | zero =>
    intro i hd hi hj
    refine Run.cut (Evp.of_eq (fun k => zoetroperef00_EqBytes.p116 k ..) ?_)
    refine Evp.dec (fun h => absurd h (by omega)) fun _ => Evp.ret (Run.ret ?_)
    rw [decide_eq_true (eq_of_getD hl fun j h => hj j (by omega))]
  | succ d ih =>
    intro i hd hi hj
    refine Run.cut (Evp.of_eq (fun k => zoetroperef00_EqBytes.p116 k ..) ?_)
    refine Evp.dec (fun _ => ?_) fun h => absurd h (by omega)
    refine Evp.pos (by omega) ?_
    simp only [Int.toNat_natCast]
    refine Evp.ldI hx (by omega) fun a _ => ?_
    refine Evp.pos (by omega) ?_
    refine Evp.ldI hy (by omega) fun a' _ => ?_
    refine Evp.neb (fun hne => Evp.ret (Run.ret ?_)) fun he => ?_
    · rw [decide_eq_false (fun e => hne (by rw [e]))]
    · rw [w64 (by omega)]
      exact Evp.ret (ih (i + 1) (by omega) (by omega) fun j h => by
        by_cases hji : j = i
        · subst hji; exact he
        · exact hj j (by omega))
theorem eqBytes_ok (lo : Nat) (A A' : Option Addr) (c c' : Nat) (xs ys : List Int) (M : Mem) (hx : RdI M .u8 A xs) (hy : RdI M .u8 A' ys) (hn : xs.length ≤ 140737488351232) :
    Ac P T lo F.zoetroperef00_EqBytes [.slice A xs.length c, .slice A' ys.length c'] M fun r => r = (.bool (decide (xs = ys)), M) := by
  refine Ac.of (Evp.of_eq (fun k => zoetroperef00_EqBytes.entry k ..) ?_)
  refine Evp.neb (fun h => Evp.ret (Run.ret ?_)) fun h => ?_
  · rw [decide_eq_false (fun e => h (by rw [e]))]
  · exact Evp.ret (eqBytes_loop lo A A' c c' xs ys M hx hy (by omega) hn _ 0 rfl (by omega) fun j h => by omega)

theorem equal_loop (lo : Nat) (A A' : Option Addr) (c c' : Nat) (xs ys : List Int) (M : Mem) (hx : RdI M .u8 A xs) (hy : RdI M .u8 A' ys) (hl : xs.length = ys.length) (hn : xs.length ≤ 140737488351232) :
    ∀ (d i : Nat), xs.length - i = d → i ≤ xs.length → (∀ j, j < i → xs.getD j 0 = ys.getD j 0) → Run P T lo F.slices_Equal__uint8_uint8 (slices_Equal__uint8_uint8.c116 A xs.length c A' ys.length c' xs.length i M) fun r => r = (.bool (decide (xs = ys)), M) := by
  intro d
  induction d with
  | zero =>
    intro i hd hi hj
    refine Run.cut (Evp.of_eq (fun k => slices_Equal__uint8_uint8.p116 k ..) ?_)
    refine Evp.dec (fun h => absurd h (by omega)) fun _ => Evp.ret (Run.ret ?_)
    rw [decide_eq_true (eq_of_getD hl fun j h => hj j (by omega))]
  | succ d ih =>
    intro i hd hi hj
    refine Run.cut (Evp.of_eq (fun k => slices_Equal__uint8_uint8.p116 k ..) ?_)
    refine Evp.dec (fun _ => ?_) fun h => absurd h (by omega)
    refine Evp.pos (by omega) ?_
    simp only [Int.toNat_natCast]
    refine Evp.ldI hx (by omega) fun a _ => ?_
    refine Evp.pos (by omega) ?_
    refine Evp.ldI hy (by omega) fun a' _ => ?_
    refine Evp.neb (fun hne => Evp.ret (Run.ret ?_)) fun he => ?_
    · rw [decide_eq_false (fun e => hne (by rw [e]))]
    · rw [w64 (by omega)]
      exact Evp.ret (ih (i + 1) (by omega) (by omega) fun j h => by
        by_cases hji : j = i
        · subst hji; exact he
        · exact hj j (by omega))
theorem equal_ok (lo : Nat) (A A' : Option Addr) (c c' : Nat) (xs ys : List Int) (M : Mem) (hx : RdI M .u8 A xs) (hy : RdI M .u8 A' ys) (hn : xs.length ≤ 140737488351232) :
    Ac P T lo F.slices_Equal__uint8_uint8 [.slice A xs.length c, .slice A' ys.length c'] M fun r => r = (.bool (decide (xs = ys)), M) := by
  refine Ac.of (Evp.of_eq (fun k => slices_Equal__uint8_uint8.entry k ..) ?_)
  refine Evp.neb (fun h => Evp.ret (Run.ret ?_)) fun h => ?_
  · rw [decide_eq_false (fun e => h (by rw [e]))]
  · exact Evp.ret (equal_loop lo A A' c c' xs ys M hx hy (by omega) hn _ 0 rfl (by omega) fun j h => by omega)

theorem rsame_ok (lo : Nat) (w h w' h' : Int) (A A' : Option Addr) (c c' : Nat) (xs ys : List Int) (M : Mem) (hx : RdI M .u8 A xs) (hy : RdI M .u8 A' ys) (hn : xs.length ≤ 140737488351232) :
    Ac P T lo F.zoetroperef05_Same [.agg ⟨[.int .i64 w, .int .i64 h, .slice A xs.length c]⟩, .agg ⟨[.int .i64 w', .int .i64 h', .slice A' ys.length c']⟩] M fun r => r = (.bool (decide (w = w' ∧ h = h' ∧ xs = ys)), M) := by
  refine Ac.of (Evp.of_eq (fun k => zoetroperef05_Same.entry k ..) ?_)
  refine Evp.eqb (fun h1 => ?_) fun h1 => Evp.ret (Run.ret (by rw [decide_eq_false (fun e => h1 e.1)]))
  refine Evp.eqb (fun h2 => ?_) fun h2 => Evp.ret (Run.ret (by rw [decide_eq_false (fun e => h2 e.2.1)]))
  refine Evp.ob (eqBytes_ok _ _ _ _ _ _ _ _ hx hy hn) ?_
  rintro _ rfl
  simp only [ret_int, ret_bool, ret_flt, ret_slc, ret_str, ret_ptr, ret_agg, ret_tup, ob_some, bb_true, bb_false, List.getElem?_cons_zero, List.getElem?_cons_succ, List.length_cons, List.length_nil, Nat.reduceAdd, Nat.reduceLT]
  refine Evp.ret (Run.ret ?_)
  congr 2
  exact decide_eq_decide.2 (by simp [h1, h2])
theorem same_ok (lo : Nat) (w h w' h' : Int) (A A' : Option Addr) (c c' : Nat) (xs ys : List Int) (M : Mem) (hx : RdI M .u8 A xs) (hy : RdI M .u8 A' ys) (hn : xs.length ≤ 140737488351232) :
    Ac P T lo F.plane_Same [.agg ⟨[.int .i64 w, .int .i64 h, .slice A xs.length c]⟩, .agg ⟨[.int .i64 w', .int .i64 h', .slice A' ys.length c']⟩] M fun r => r = (.bool (decide (w = w' ∧ h = h' ∧ xs = ys)), M) := by
  refine Ac.of (Evp.of_eq (fun k => plane_Same.entry k ..) ?_)
  refine Evp.eqb (fun h1 => ?_) fun h1 => Evp.ret (Run.ret (by rw [decide_eq_false (fun e => h1 e.1)]))
  refine Evp.eqb (fun h2 => ?_) fun h2 => Evp.ret (Run.ret (by rw [decide_eq_false (fun e => h2 e.2.1)]))
  refine Evp.ob (equal_ok _ _ _ _ _ _ _ _ hx hy hn) ?_
  rintro _ rfl
  simp only [ret_int, ret_bool, ret_flt, ret_slc, ret_str, ret_ptr, ret_agg, ret_tup, ob_some, bb_true, bb_false, List.getElem?_cons_zero, List.getElem?_cons_succ, List.length_cons, List.length_nil, Nat.reduceAdd, Nat.reduceLT]
  refine Evp.ret (Run.ret ?_)
  congr 2
  exact decide_eq_decide.2 (by simp [h1, h2])

theorem copyBytes_ok (lo : Nat) (A : Option Addr) (c : Nat) (xs : List Int) (M : Mem) (hx : RdI M .u8 A xs) (hn : xs.length ≤ 140737488351232) (hlo : lo ≤ M.length) :
    Ac P T lo F.zoetroperef00_CopyBytes [.slice A xs.length c] M fun r => ∃ A' c' M', r = (.slice A' xs.length c', M') ∧ Pre M M' ∧ xs.length ≤ c' ∧ Grow M M' 1 A' xs.length (xs.map (Value.int .u8)) := by
  refine Ac.of (Evp.of_eq (fun k => zoetroperef00_CopyBytes.entry k ..) ?_)
  refine Evp.some hx.src ?_
  obtain ⟨s, M', h1, h2, h3, h4, _, h5⟩ := (Grow.nil (M0 := M) (M := M) (z := 1)).app (bytes := 1) (c := 0) (m := xs.length) (vs := xs.map (Value.int .u8)) (Pre.refl M) hlo (by simp) (by omega) (by omega)
  rw [Nat.zero_add] at h3
  refine Evp.some h1 (Evp.ret (Run.ret ⟨s.a, s.c, M', ?_, h4, by rw [← h3]; exact h5 (Nat.zero_le _), ?_⟩))
  · simp only [h3]
  · rw [h3] at h2; exact h2
theorem copyPlane_ok (lo : Nat) (w h : Int) (A : Option Addr) (c : Nat) (xs : List Int) (M : Mem) (hx : RdI M .u8 A xs) (hn : xs.length ≤ 140737488351232) :
    Ac P T lo F.zoetroperef05_CopyPlane [.agg ⟨[.int .i64 w, .int .i64 h, .slice A xs.length c]⟩] M fun r => ∃ A' c' M', r = (.agg ⟨[.int .i64 w, .int .i64 h, .slice A' xs.length c']⟩, M') ∧ Pre M M' ∧ xs.length ≤ c' ∧ Grow M M' 1 A' xs.length (xs.map (Value.int .u8)) := by
  refine Ac.of (Evp.of_eq (fun k => zoetroperef05_CopyPlane.entry k ..) ?_)
  refine Evp.ob (copyBytes_ok _ _ _ _ _ hx hn (Nat.le_refl _)) ?_
  rintro _ ⟨A', c', M', rfl, h1, h3, h2⟩
  simp only [ret_int, ret_bool, ret_flt, ret_slc, ret_str, ret_ptr, ret_agg, ret_tup, ob_some, bb_true, bb_false, List.getElem?_cons_zero, List.getElem?_cons_succ, List.length_cons, List.length_nil, Nat.reduceAdd, Nat.reduceLT]
  exact Evp.ret (Run.ret ⟨A', c', M', rfl, h1, h3, h2⟩)
def bringS (i n : Int) : Int := if n ≤ 0 then 0 else i % n
theorem bring_ok (lo : Nat) (i n : Int) (M : Mem) (hn : n ≤ 9223372036854775807) : Ac P T lo F.zoetroperef00_Bring [.int .i64 i, .int .i64 n] M fun r => r = (.int .i64 (bringS i n), M) := by
  refine Ac.of (Evp.of_eq (fun k => zoetroperef00_Bring.entry k ..) ?_)
  unfold bringS
  refine Evp.dec (fun h => Evp.ret (Run.ret (by rw [if_pos h]))) fun h => ?_
  rw [if_neg h]
  refine Evp.neg (by omega) ?_
  have h1 : Int.tmod i n = if i % n = 0 ∨ 0 ≤ i then i % n else i % n - n := by
    rw [Int.tmod_eq_emod]
    by_cases h2 : 0 ≤ i ∨ n ∣ i
    · rw [if_pos h2, if_pos (by rcases h2 with h2 | h2; exact .inr h2; exact .inl (Int.emod_eq_zero_of_dvd h2))]; omega
    · rw [if_neg h2, if_neg (by rintro (h3 | h3); exact h2 (.inr (Int.dvd_of_emod_eq_zero h3)); exact h2 (.inl h3))]; omega
  have h2 := Int.emod_nonneg i (b := n) (by omega)
  have h3 := Int.emod_lt_of_pos i (b := n) (by omega)
  refine Evp.dec (fun h4 => Evp.ret ?_) fun h4 => Evp.ret ?_
  · refine Run.cut (Evp.of_eq (fun k => zoetroperef00_Bring.p31 k ..) ?_)
    refine Evp.ret (Run.ret ?_)
    have e : Int.tmod i n + n = i % n := by
      rw [h1] at h4 ⊢
      split at h4
      · omega
      · rename_i h5; rw [if_neg h5]; omega
    rw [e, w64 (by omega)]
  · refine Run.cut (Evp.of_eq (fun k => zoetroperef00_Bring.p31 k ..) ?_)
    refine Evp.ret (Run.ret ?_)
    have e : Int.tmod i n = i % n := by
      rw [h1] at h4 ⊢
      split at h4
      · rename_i h5; rw [if_pos h5]
      · omega
    rw [e]
theorem bringS_lt {i n : Int} (h : 0 < n) : 0 ≤ bringS i n ∧ bringS i n < n := by
  unfold bringS
  rw [if_neg (by omega)]
  exact ⟨Int.emod_nonneg i (by omega), Int.emod_lt_of_pos i h⟩
def clipS (v a b : Int) : Int := if v < a then a else if v > b then b else v
theorem clip_ok (lo : Nat) (v a b : Int) (M : Mem) : Ac P T lo F.zoetroperef00_Clip [.int .i64 v, .int .i64 a, .int .i64 b] M fun r => r = (.int .i64 (clipS v a b), M) := by
  refine Ac.of (Evp.of_eq (fun k => zoetroperef00_Clip.entry k ..) ?_)
  unfold clipS
  refine Evp.dec (fun h => Evp.ret (Run.ret (by rw [if_pos h]))) fun h => ?_
  rw [if_neg h]
  refine Evp.dec (fun h => Evp.ret (Run.ret (by rw [if_pos h]))) fun h => Evp.ret (Run.ret (by rw [if_neg h]))
theorem minmax_clip {v a b : Int} (h : a ≤ b) : minI (maxI v a) b = clipS v a b := by
  unfold minI maxI clipS; repeat' split
  all_goals omega
theorem clipS_le {v a b : Int} (h : a ≤ b) : a ≤ clipS v a b ∧ clipS v a b ≤ b := by
  unfold clipS; split
  · omega
  · split <;> omega
theorem at_ok (lo : Nat) (w h : Int) (A : Option Addr) (c : Nat) (xs : List Int) (x y : Int) (M : Mem) (hx : RdI M .u8 A xs) (hk : checkS w h xs.length = 0) :
    Ac P T lo F.plane_At [.agg ⟨[.int .i64 w, .int .i64 h, .slice A xs.length c]⟩, .int .i64 x, .int .i64 y] M fun r => r = (.int .u8 (xs.getD (clipS y 0 (h - 1) * w + clipS x 0 (w - 1)).toNat 0), M) := by
  refine Ac.of (Evp.of_eq (fun k => plane_At.entry k ..) ?_)
  refine Evp.ob (check_ok ..) ?_
  rintro _ rfl
  simp only [ret_int, ret_bool, ret_flt, ret_slc, ret_str, ret_ptr, ret_agg, ret_tup, ob_some, bb_true, bb_false, List.getElem?_cons_zero, List.getElem?_cons_succ, List.length_cons, List.length_nil, Nat.reduceAdd, Nat.reduceLT]
  refine Evp.ff (by rw [hk]; rfl) ?_
  unfold checkS at hk
  split at hk
  · rename_i hs
    have har := area (w := w) (h := h) (by omega)
    have h1 := clipS_le (v := y) (a := 0) (b := h - 1) (by omega)
    have h2 := clipS_le (v := x) (a := 0) (b := w - 1) (by omega)
    have h3 : clipS y 0 (h - 1) * w ≤ (h - 1) * w := Int.mul_le_mul_of_nonneg_right h1.2 (by omega)
    have h4 : (h - 1) * w = w * h - w := by rw [Int.sub_mul, Int.mul_comm h w]; omega
    have h0 : 0 ≤ clipS y 0 (h - 1) * w := Int.mul_nonneg h1.1 (by omega)
    rw [w64 (x := h - 1) (by omega), w64 (x := w - 1) (by omega), minmax_clip (by omega), minmax_clip (by omega), w64 (x := clipS y 0 (h - 1) * w) (by omega), w64 (by omega)]
    refine Evp.pos (by omega) ?_
    refine Evp.ldI hx (by omega) fun _ _ => ?_
    exact Evp.ret (Run.ret rfl)
  · omega
def sqd (x y : Int) : Int := (x - y) * (x - y)
def apartS (xs ys : List Int) : Nat → Int
  | 0 => 0
  | n + 1 => apartS xs ys n + sqd (xs.getD n 0) (ys.getD n 0)
theorem sqd_le {x y : Int} (hx : 0 ≤ x ∧ x ≤ 255) (hy : 0 ≤ y ∧ y ≤ 255) : 0 ≤ sqd x y ∧ sqd x y ≤ 65025 := by
  unfold sqd
  have h1 : (x - y) * (x - y) = (y - x) * (y - x) := by rw [← Int.neg_sub, Int.neg_mul_neg]
  rcases Int.le_total x y with h | h
  · rw [h1]
    exact ⟨Int.mul_nonneg (by omega) (by omega), Int.mul_le_mul (c := 255) (d := 255) (by omega) (by omega) (by omega) (by omega)⟩
  · exact ⟨Int.mul_nonneg (by omega) (by omega), Int.mul_le_mul (c := 255) (d := 255) (by omega) (by omega) (by omega) (by omega)⟩
theorem apartS_le {xs ys : List Int} (hx : Bytes xs) (hy : Bytes ys) (n : Nat) : 0 ≤ apartS xs ys n ∧ apartS xs ys n ≤ 65025 * n := by
  induction n with
  | zero => simp [apartS]
  | succ n ih =>
    have := sqd_le (hx.get n) (hy.get n)
    simp only [apartS]
    omega
theorem sq_wrap {x y : Int} (hx : 0 ≤ x ∧ x ≤ 255) (hy : 0 ≤ y ∧ y ≤ 255) :
    IntKind.u64.wrap (IntKind.i64.wrap ((IntKind.i64.wrap ((IntKind.i64.wrap x) - (IntKind.i64.wrap y))) * (IntKind.i64.wrap ((IntKind.i64.wrap x) - (IntKind.i64.wrap y))))) = sqd x y := by
  have h := sqd_le hx hy
  unfold sqd at *
  rw [w64 (x := x) (by omega), w64 (x := y) (by omega), w64 (x := x - y) (by omega), w64 (by omega), wu64 (by omega)]

theorem apart_loop (lo : Nat) (A A' : Option Addr) (c c' : Nat) (w h : Int) (xs ys : List Int) (M : Mem) (hx : RdI M .u8 A xs) (hy : RdI M .u8 A' ys) (bx : Bytes xs) (by_ : Bytes ys) (hl : xs.length ≤ ys.length) (hn : xs.length ≤ 262144) :
    ∀ (d i : Nat), xs.length - i = d → i ≤ xs.length → Run P T lo F.plane_Apart (plane_Apart.c244 (apartS xs ys i) A xs.length c xs.length i w h A' ys.length c' M) fun r => r = (.tuple ⟨[.int .u64 (apartS xs ys xs.length), .int .i64 0]⟩, M) := by
  intro d
  induction d with
  | zero =>
    intro i hd hi
    obtain rfl : i = xs.length := by omega
    refine Run.cut (Evp.of_eq (fun k => plane_Apart.p244 k ..) ?_)
    refine Evp.dec (fun h => absurd h (by omega)) fun _ => Evp.ret (Run.ret rfl)
  | succ d ih =>
    intro i hd hi
    refine Run.cut (Evp.of_eq (fun k => plane_Apart.p244 k ..) ?_)
    refine Evp.dec (fun _ => ?_) fun h => absurd h (by omega)
    refine Evp.pos (by omega) ?_
    simp only [Int.toNat_natCast]
    refine Evp.ldI hx (by omega) fun a _ => ?_
    refine Evp.pos (by omega) ?_
    refine Evp.ldI hy (by omega) fun a' _ => ?_
    have h1 := sqd_le (bx.get i) (by_.get i)
    have h2 := apartS_le bx by_ i
    rw [sq_wrap (bx.get i) (by_.get i), wu64 (by omega), w64 (by omega)]
    exact Evp.ret (ih (i + 1) (by omega) (by omega))

theorem apart_ok (lo : Nat) (w h w' h' : Int) (A A' : Option Addr) (c c' : Nat) (xs ys : List Int) (M : Mem) (hx : RdI M .u8 A xs) (hy : RdI M .u8 A' ys) (bx : Bytes xs) (by_ : Bytes ys) :
    Ac P T lo F.plane_Apart [.agg ⟨[.int .i64 w, .int .i64 h, .slice A xs.length c]⟩, .agg ⟨[.int .i64 w', .int .i64 h', .slice A' ys.length c']⟩] M fun r =>
      r = (if checkS w h xs.length = 0 ∧ checkS w' h' ys.length = 0 ∧ w = w' ∧ h = h' then .tuple ⟨[.int .u64 (apartS xs ys xs.length), .int .i64 0]⟩ else .tuple ⟨[.int .u64 0, .int .i64 2]⟩, M) := by
  refine Ac.of (Evp.of_eq (fun k => plane_Apart.entry k ..) ?_)
  refine Evp.ob (check_ok ..) ?_
  rintro _ rfl
  simp only [ret_int, ret_bool, ret_flt, ret_slc, ret_str, ret_ptr, ret_agg, ret_tup, ob_some, bb_true, bb_false, List.getElem?_cons_zero, List.getElem?_cons_succ, List.length_cons, List.length_nil, Nat.reduceAdd, Nat.reduceLT]
  refine Evp.neb (fun h1 => Evp.ret (Run.ret (by rw [if_neg (by omega)]))) fun h1 => ?_
  refine Evp.ob (check_ok ..) ?_
  rintro _ rfl
  simp only [ret_int, ret_bool, ret_flt, ret_slc, ret_str, ret_ptr, ret_agg, ret_tup, ob_some, bb_true, bb_false, List.getElem?_cons_zero, List.getElem?_cons_succ, List.length_cons, List.length_nil, Nat.reduceAdd, Nat.reduceLT]
  refine Evp.neb (fun h2 => Evp.ret (Run.ret (by rw [if_neg (by omega)]))) fun h2 => ?_
  refine Evp.neb (fun h3 => Evp.ret (Run.ret (by rw [if_neg (by omega)]))) fun h3 => ?_
  refine Evp.neb (fun h4 => Evp.ret (Run.ret (by rw [if_neg (by omega)]))) fun h4 => ?_
  rw [if_pos ⟨h1, h2, h3, h4⟩]
  unfold checkS at h1 h2
  subst h3; subst h4
  split at h1
  · rename_i e1
    split at h2
    · rename_i e2
      have hm := area (w := w) (h := h) (by omega)
      exact Evp.ret (apart_loop lo A A' c c' w h xs ys M hx hy bx by_ (by omega) (by omega) _ 0 rfl (by omega))
    · omega
  · omega

theorem rapart_loop (lo : Nat) (A A' : Option Addr) (c c' : Nat) (w h w' h' : Int) (xs ys : List Int) (M : Mem) (hx : RdI M .u8 A xs) (hy : RdI M .u8 A' ys) (bx : Bytes xs) (by_ : Bytes ys) (hl : xs.length ≤ ys.length) (hn : xs.length ≤ 262144) :
    ∀ (d i : Nat), xs.length - i = d → i ≤ xs.length → Run P T lo F.zoetroperef05_Apart (zoetroperef05_Apart.c244 (apartS xs ys i) i w h A xs.length c w' h' A' ys.length c' M) fun r => r = (.tuple ⟨[.int .u64 (apartS xs ys xs.length), .int .i64 0]⟩, M) := by
  intro d
  induction d with
  | zero =>
    intro i hd hi
    obtain rfl : i = xs.length := by omega
    refine Run.cut (Evp.of_eq (fun k => zoetroperef05_Apart.p244 k ..) ?_)
    refine Evp.dec (fun h => absurd h (by omega)) fun _ => Evp.ret (Run.ret rfl)
  | succ d ih =>
    intro i hd hi
    refine Run.cut (Evp.of_eq (fun k => zoetroperef05_Apart.p244 k ..) ?_)
    refine Evp.dec (fun _ => ?_) fun h => absurd h (by omega)
    refine Evp.pos (by omega) ?_
    simp only [Int.toNat_natCast]
    refine Evp.ldI hx (by omega) fun a _ => ?_
    refine Evp.pos (by omega) ?_
    refine Evp.ldI hy (by omega) fun a' _ => ?_
    have h1 := sqd_le (bx.get i) (by_.get i)
    have h2 := apartS_le bx by_ i
    rw [sq_wrap (bx.get i) (by_.get i), wu64 (by omega), w64 (by omega)]
    exact Evp.ret (ih (i + 1) (by omega) (by omega))

theorem rapart_ok (lo : Nat) (w h w' h' : Int) (A A' : Option Addr) (c c' : Nat) (xs ys : List Int) (M : Mem) (hx : RdI M .u8 A xs) (hy : RdI M .u8 A' ys) (bx : Bytes xs) (by_ : Bytes ys) :
    Ac P T lo F.zoetroperef05_Apart [.agg ⟨[.int .i64 w, .int .i64 h, .slice A xs.length c]⟩, .agg ⟨[.int .i64 w', .int .i64 h', .slice A' ys.length c']⟩] M fun r =>
      r = (if checkS w h xs.length = 0 ∧ checkS w' h' ys.length = 0 ∧ w = w' ∧ h = h' then .tuple ⟨[.int .u64 (apartS xs ys xs.length), .int .i64 0]⟩ else .tuple ⟨[.int .u64 0, .int .i64 2]⟩, M) := by
  refine Ac.of (Evp.of_eq (fun k => zoetroperef05_Apart.entry k ..) ?_)
  refine Evp.ob (rcheck_ok ..) ?_
  rintro _ rfl
  simp only [ret_int, ret_bool, ret_flt, ret_slc, ret_str, ret_ptr, ret_agg, ret_tup, ob_some, bb_true, bb_false, List.getElem?_cons_zero, List.getElem?_cons_succ, List.length_cons, List.length_nil, Nat.reduceAdd, Nat.reduceLT]
  refine Evp.neb (fun h1 => Evp.ret (Run.ret (by rw [if_neg (by omega)]))) fun h1 => ?_
  refine Evp.ob (rcheck_ok ..) ?_
  rintro _ rfl
  simp only [ret_int, ret_bool, ret_flt, ret_slc, ret_str, ret_ptr, ret_agg, ret_tup, ob_some, bb_true, bb_false, List.getElem?_cons_zero, List.getElem?_cons_succ, List.length_cons, List.length_nil, Nat.reduceAdd, Nat.reduceLT]
  refine Evp.neb (fun h2 => Evp.ret (Run.ret (by rw [if_neg (by omega)]))) fun h2 => ?_
  refine Evp.neb (fun h3 => Evp.ret (Run.ret (by rw [if_neg (by omega)]))) fun h3 => ?_
  refine Evp.neb (fun h4 => Evp.ret (Run.ret (by rw [if_neg (by omega)]))) fun h4 => ?_
  rw [if_pos ⟨h1, h2, h3, h4⟩]
  unfold checkS at h1 h2
  subst h3; subst h4
  split at h1
  · rename_i e1
    split at h2
    · rename_i e2
      have hm := area (w := w) (h := h) (by omega)
      exact Evp.ret (rapart_loop lo A A' c c' w h w h xs ys M hx hy bx by_ (by omega) (by omega) _ 0 rfl (by omega))
    · omega
  · omega

theorem zerosL_one (v : Value) (n : Nat) : zerosL [v] n = List.replicate n v := by
  unfold zerosL
  induction n with
  | zero => rfl
  | succ n ih => rw [List.replicate_succ, List.flatten_cons, ih]; rfl
theorem andle {x : Int} : 0 ≤ andI .u64 x 4294967295 ∧ andI .u64 x 4294967295 ≤ 4294967295 := by
  unfold andI
  have h : (BitVec.ofInt IntKind.u64.bits x &&& BitVec.ofInt IntKind.u64.bits 4294967295).toNat ≤ 4294967295 := by
    rw [BitVec.toNat_and]
    exact Nat.le_trans Nat.and_le_right (by decide)
  rw [wu64 (by omega)]
  omega
theorem shr_small {x : Int} (h : 0 ≤ x ∧ x ≤ 4294967295) : shrI .u64 x 32 = 0 := by
  unfold shrI
  rw [show min 32 IntKind.u64.bits = 32 from rfl, Int.fdiv_eq_ediv_of_nonneg _ (by decide)]
  exact Int.ediv_eq_zero_of_lt h.1 (by omega)
theorem mul64_ok (lo : Nat) (n : Int) (M : Mem) (hn : 0 ≤ n ∧ n ≤ 2147483647) : Ac P T lo F.math_bits_Mul64 [.int .u64 1, .int .u64 n] M fun r => r = (.tuple ⟨[.int .u64 0, .int .u64 n]⟩, M) := by
  refine Ac.of (Evp.of_eq (fun k => math_bits_Mul64.entry k ..) ?_)
  refine Evp.ret (Run.ret ?_)
  have a1 := andle (x := n)
  have a2 : andI .u64 1 4294967295 = 1 := by decide
  have a3 : andI .u64 0 4294967295 = 0 := by decide
  have w0 : IntKind.u64.wrap 0 = 0 := by decide
  simp only [shr_small (x := 1) (by decide), shr_small (x := n) (by omega), a2, Int.zero_mul, Int.one_mul, Int.mul_zero, w0, Int.zero_add, Int.add_zero, wu64 (x := andI .u64 n 4294967295) (by omega), shr_small (x := andI .u64 n 4294967295) (by omega), a3, shr_small (x := 0) (by decide), wu64 (x := n) (by omega)]
theorem mul_ok (lo : Nat) (n : Int) (M : Mem) (hn : 0 ≤ n ∧ n ≤ 2147483647) : Ac P T lo F.math_bits_Mul [.int .u64 1, .int .u64 n] M fun r => r = (.tuple ⟨[.int .u64 0, .int .u64 n]⟩, M) := by
  refine Ac.of (Evp.of_eq (fun k => math_bits_Mul.entry k ..) ?_)
  refine Evp.ob (mul64_ok _ _ _ hn) ?_
  rintro _ rfl
  simp only [ret_int, ret_bool, ret_flt, ret_slc, ret_str, ret_ptr, ret_agg, ret_tup, ob_some, bb_true, bb_false, List.getElem?_cons_zero, List.getElem?_cons_succ, List.length_cons, List.length_nil, Nat.reduceAdd, Nat.reduceLT]
  exact Evp.ret (Run.ret rfl)
theorem rd_src {M : Mem} {A : Option Addr} {k : IntKind} {l h c m : Nat} {xs : List Int} (hr : RdI M k A xs) (h1 : l ≤ h) (h2 : h ≤ xs.length) (hc : xs.length ≤ c) (hm : m = h - l) :
    Mem.src M (Zt.slAddr 1 A l c) m m = some (((xs.drop l).take m).map (Value.int k)) := by
  subst hm
  have := (hr.slAddr h1 h2 hc).src
  rwa [List.length_take, List.length_drop, Nat.min_eq_left (by omega)] at this
theorem slAddr_at {a : Addr} {l c : Nat} (h : l < c) : Zt.slAddr 1 (some a) l c = some (plus a l) := by
  unfold Zt.slAddr
  rw [if_neg (by omega)]; rfl
def fillR (n : Nat) (v : Int) (i : Nat) : List Int := List.replicate i v ++ List.replicate (n - i) 0
theorem fillR_len {n i : Nat} {v : Int} (h : i ≤ n) : (fillR n v i).length = n := by simp [fillR]; omega
theorem fillR_full (n : Nat) (v : Int) : fillR n v n = List.replicate n v := by simp [fillR]
theorem fillR_set {n i m : Nat} {v : Int} (h : i + m ≤ n) : setL ((fillR n v i).map (Value.int .u8)) i ((List.replicate m v).map (Value.int .u8)) = (fillR n v (i + m)).map (Value.int .u8) := by
  have e1 : (fillR n v i).map (Value.int .u8) = List.replicate i (.int .u8 v) ++ List.replicate m (.int .u8 0) ++ List.replicate (n - i - m) (.int .u8 0) := by
    simp [fillR]; omega
  have e2 : (fillR n v (i + m)).map (Value.int .u8) = List.replicate i (.int .u8 v) ++ List.replicate m (.int .u8 v) ++ List.replicate (n - i - m) (.int .u8 0) := by
    simp [fillR, Nat.sub_sub]
  have := setL_all (List.replicate i (Value.int .u8 v)) (List.replicate m (Value.int .u8 0)) (List.replicate m (Value.int .u8 v)) (List.replicate (n - i - m) (Value.int .u8 0)) (by simp)
  rw [List.length_replicate] at this
  rw [e1, e2, List.map_replicate, this]
theorem repeat_loop (lo : Nat) (M0 : Mem) (a : Addr) (n : Nat) (v : Int) (hn : n ≤ 2147483647) (hlo : lo ≤ M0.length) : ∀ (d i : Nat) (M : Mem), n - i = d → 1 ≤ i → i ≤ n → Pre M0 M → Buf M0 M a ((fillR n v i).map (Value.int .u8)) →
    Run P T lo F.slices_Repeat__uint8_uint8 (slices_Repeat__uint8_uint8.c1016 (some a) n n i M) fun r => ∃ M', r = (.slice (some a) n n, M') ∧ Pre M0 M' ∧ Buf M0 M' a ((List.replicate n v).map (Value.int .u8)) := by
  intro d
  induction d using Nat.strongRecOn with
  | ind d ih =>
    intro i M hd h1 hi hp hb
    refine Run.cut (Evp.of_eq (fun k => slices_Repeat__uint8_uint8.p1016 k ..) ?_)
    refine Evp.dec (fun hlt => ?_) fun hge => ?_
    · refine Evp.pos (by omega) (Evp.pos (by omega) ?_)
      simp only [Int.toNat_natCast, Nat.sub_zero]
      have hmin : Nat.min i (n - i) ≤ i ∧ Nat.min i (n - i) ≤ n - i ∧ 1 ≤ Nat.min i (n - i) := ⟨Nat.min_le_left _ _, Nat.min_le_right _ _, Nat.le_min.2 ⟨h1, by omega⟩⟩
      have hl := fillR_len (v := v) hi
      refine Evp.some (rd_src (h := Nat.min i (n - i)) hb.rdI (by omega) (by omega) (by omega) (by omega)) ?_
      refine Evp.neg (by omega) ?_
      refine Evp.some (slAddr_at (by omega)) ?_
      have e : ((fillR n v i).drop 0).take (Nat.min i (n - i)) = List.replicate (Nat.min i (n - i)) v := by
        unfold fillR
        rw [List.drop_zero, List.take_append_of_le_length (by rw [List.length_replicate]; omega), List.take_replicate, Nat.min_eq_left (a := Nat.min i (n - i)) (by omega)]
      rw [e]
      obtain ⟨M1, g1, g2, g3, g4, g5⟩ := hb.st (lo := lo) (i := i) (vs := (List.replicate (Nat.min i (n - i)) v).map (Value.int .u8)) hp hlo (by rw [List.length_map, List.length_map, hl, List.length_replicate]; omega)
      refine Evp.some g1 ?_
      rw [fillR_set (by omega)] at g2
      rw [w64 (by omega)]
      exact Evp.ret (ih (n - (i + Nat.min i (n - i))) (by omega) (i + Nat.min i (n - i)) M1 rfl (by omega) (by omega) g3 g2)
    · obtain rfl : i = n := by omega
      rw [fillR_full] at hb
      exact Evp.ret (Run.ret ⟨M, rfl, hp, hb⟩)
theorem repeat_ok (lo : Nat) (A : Option Addr) (c : Nat) (v : Int) (n : Int) (M : Mem) (hx : RdI M .u8 A [v]) (hn : 1 ≤ n ∧ n ≤ 2147483647) (hlo : lo ≤ M.length) :
    Ac P T lo F.slices_Repeat__uint8_uint8 [.slice A 1 c, .int .i64 n] M fun r => ∃ a M', r = (.slice (some a) n.toNat n.toNat, M') ∧ Pre M M' ∧ Buf M M' a ((List.replicate n.toNat v).map (Value.int .u8)) := by
  refine Ac.of (Evp.of_eq (fun k => slices_Repeat__uint8_uint8.entry k ..) ?_)
  refine Evp.dec (fun h => absurd h (by omega)) fun _ => ?_
  refine Evp.ret ?_
  refine Run.cut (Evp.of_eq (fun k => slices_Repeat__uint8_uint8.p7 k ..) ?_)
  rw [show IntKind.u64.wrap ((1 : Nat) : Int) = 1 from by decide, wu64 (x := n) (by omega)]
  refine Evp.ob (mul_ok _ _ _ (by omega)) ?_
  rintro _ rfl
  simp only [ret_int, ret_bool, ret_flt, ret_slc, ret_str, ret_ptr, ret_agg, ret_tup, ob_some, bb_true, bb_false, List.getElem?_cons_zero, List.getElem?_cons_succ, List.length_cons, List.length_nil, Nat.reduceAdd, Nat.reduceLT]
  refine Evp.dec (fun h => absurd h (by omega)) fun _ => ?_
  refine Evp.dec (fun h => absurd h (by omega)) fun _ => ?_
  refine Evp.ret ?_
  refine Run.cut (Evp.of_eq (fun k => slices_Repeat__uint8_uint8.p31 k ..) ?_)
  rw [w64 (x := n) (by omega)]
  refine Evp.pos ⟨by omega, by show n.toNat * 1 ≤ 140737488355328; omega⟩ ?_
  have hm : Nat.min 1 n.toNat = 1 := Nat.min_eq_left (by omega)
  rw [hm]
  have hz : zerosL [.int .u8 0] n.toNat = (fillR n.toNat v 0).map (Value.int .u8) := by rw [zerosL_one]; simp [fillR]
  rw [hz]
  refine Evp.some ((hx.pre (Pre.app _ _)).src) (Evp.neg (by omega) ?_)
  obtain ⟨M1, g1, g2, g3, g4, g5⟩ := (Buf.push (cs := (fillR n.toNat v 0).map (Value.int .u8)) (Pre.refl M)).st (lo := lo) (i := 0) (vs := [.int .u8 v]) (Pre.app _ _) hlo (by simp [fillR_len]; omega)
  refine Evp.some g1 ?_
  have := fillR_set (n := n.toNat) (i := 0) (m := 1) (v := v) (by omega)
  rw [show ((List.replicate 1 v).map (Value.int .u8)) = [.int .u8 v] from rfl] at this
  rw [this] at g2
  refine Evp.ret ((repeat_loop lo M _ n.toNat v (by omega) hlo _ (0 + 1) M1 rfl (by omega) (by omega) g3 g2).mono ?_)
  rintro r ⟨M', rfl, h1, h2⟩
  exact ⟨_, M', rfl, h1, h2⟩
theorem new_ok (lo : Nat) (w h v : Int) (M : Mem) (hlo : lo ≤ M.length) :
    Ac P T lo F.plane_New [.int .i64 w, .int .i64 h, .int .u8 v] M fun r => Pre M r.2 ∧ if 1 ≤ w ∧ w ≤ 512 ∧ 1 ≤ h ∧ h ≤ 512 then ∃ a, r.1 = .tuple ⟨[.agg ⟨[.int .i64 w, .int .i64 h, .slice (some a) (w * h).toNat (w * h).toNat]⟩, .int .i64 0]⟩ ∧ Buf M r.2 a ((List.replicate (w * h).toNat v).map (Value.int .u8))
      else r.1 = .tuple ⟨[.agg ⟨[.int .i64 0, .int .i64 0, .slice none 0 0]⟩, .int .i64 2]⟩ := by
  refine Ac.of (Evp.of_eq (fun k => plane_New.entry k ..) ?_)
  refine Evp.ob (sizes_ok ..) ?_
  rintro _ rfl
  simp only [ret_int, ret_bool, ret_flt, ret_slc, ret_str, ret_ptr, ret_agg, ret_tup, ob_some, bb_true, bb_false, List.getElem?_cons_zero, List.getElem?_cons_succ, List.length_cons, List.length_nil, Nat.reduceAdd, Nat.reduceLT]
  refine Evp.nb (fun h1 => ?_) fun h1 => ?_
  · have := of_decide_eq_false h1
    exact Evp.ret (Run.ret ⟨Pre.refl _, by rw [if_neg this]⟩)
  · have h1 := of_decide_eq_true h1
    have hm := area h1
    rw [w64 (by omega)]
    refine Evp.ob (repeat_ok lo _ 1 v (w * h) _ (RdI.lit [v]) (by omega) (by simp; omega)) ?_
    rintro _ ⟨a, M', rfl, p1, hb⟩
    simp only [ret_int, ret_bool, ret_flt, ret_slc, ret_str, ret_ptr, ret_agg, ret_tup, ob_some, bb_true, bb_false, List.getElem?_cons_zero, List.getElem?_cons_succ, List.length_cons, List.length_nil, Nat.reduceAdd, Nat.reduceLT]
    refine Evp.ret (Run.ret ⟨(Pre.app _ _).trans p1, ?_⟩)
    rw [if_pos h1]
    exact ⟨a, rfl, hb.floor (by simp)⟩
theorem dm {W r s : Nat} (hs : s < W) : (r * W + s) / W = r ∧ (r * W + s) % W = s := by
  rw [Nat.mul_comm, Nat.mul_add_div (by omega), Nat.mul_add_mod, Nat.div_eq_of_lt hs, Nat.mod_eq_of_lt hs]
  exact ⟨by omega, rfl⟩
theorem dm_lt {W h q : Nat} (hq : q < h * W) : 0 < W ∧ q / W < h ∧ q % W < W ∧ q = (q / W) * W + q % W := by
  have hW : 0 < W := by
    rcases Nat.eq_zero_or_pos W with e | e
    · rw [e] at hq; simp at hq
    · exact e
  refine ⟨hW, Nat.div_lt_of_lt_mul (by rwa [Nat.mul_comm] at hq), Nat.mod_lt _ hW, ?_⟩
  have := Nat.div_add_mod q W
  rw [Nat.mul_comm] at this
  exact this.symm
theorem dm_in {W h r s : Nat} (hr : r < h) (hs : s < W) : r * W + s < h * W := by
  have : (r + 1) * W ≤ h * W := Nat.mul_le_mul_right _ hr
  rw [Nat.succ_mul] at this
  omega
def pixS (w h : Int) (xs : List Int) (y x : Int) : Int := xs.getD (clipS y 0 (h - 1) * w + clipS x 0 (w - 1)).toNat 0
theorem ldI_if {M : Mem} {A : Option Addr} {k : IntKind} {xs : List Int} {i : Nat} {β : Type} {Q : β → Prop} {f : Nat → Addr → Int → Option β} (h : RdI M k A xs) (hi : i < xs.length) (hf : ∀ a, A = .some a → Evp (fun kk => f kk a (xs.getD i 0)) Q) :
    Evp (fun kk => ob A fun a => ob ((if (plus a i).block < M.length then M.ld (plus a i) else none).bind (Value.int? k)) fun x => f kk a x) Q := by
  obtain ⟨a, rfl, hb, hl⟩ := h.ld hi
  refine Evp.some rfl (Evp.some (b := xs.getD i 0) ?_ (hf a rfl))
  rw [if_pos (by rw [plus_block]; exact hb), hl]
  simp [Value.int?]
/-! ### Lists that are written over -/
theorem setL_ints {k : IntKind} : ∀ (vs xs : List Int) (l : Nat), setL (xs.map (Value.int k)) l (vs.map (Value.int k)) = (setL xs l vs).map (Value.int k)
  | [], _, _ => rfl
  | v :: vs, xs, l => by
    simp only [List.map_cons, setL]
    rw [set_map]
    exact setL_ints vs _ _
theorem setL_getD : ∀ (vs xs : List Int) (l q : Nat), l + vs.length ≤ xs.length → (setL xs l vs).getD q 0 = if l ≤ q ∧ q < l + vs.length then vs.getD (q - l) 0 else xs.getD q 0
  | [], xs, l, q, _ => by
    rw [if_neg (by intro h; have h2 := h.2; simp only [List.length_nil] at h2; omega)]; rfl
  | v :: vs, xs, l, q, h => by
    simp only [List.length_cons] at h ⊢
    simp only [setL]
    rw [setL_getD vs (xs.set l v) (l + 1) q (by simp; omega)]
    by_cases e : q = l
    · subst e
      rw [if_neg (by omega), if_pos (by omega), getD_set (by omega), if_pos rfl, Nat.sub_self]; rfl
    · by_cases h2 : l + 1 ≤ q ∧ q < l + 1 + vs.length
      · rw [if_pos h2, if_pos (by omega), show q - l = (q - (l + 1)) + 1 by omega]; rfl
      · rw [if_neg h2, if_neg (by omega), getD_set (by omega), if_neg e]
theorem getD_dt {xs : List Int} {o n i : Nat} (hi : i < n) : ((xs.drop o).take n).getD i 0 = xs.getD (o + i) 0 := by
  simp only [List.getD_eq_getElem?_getD, List.getElem?_take, if_pos hi, List.getElem?_drop]
end Go.Zt
