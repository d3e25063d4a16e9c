/- Functions of the layer: planes, lists of bytes, taps. -/
import Derived.Test.YtgpobephldelaaaAb30
import Derived.Test.YtgpobephldelaaaEq1
import Derived.Test.YtgpobephldelaaaEq2
import Derived.Test.YtgpobephldelaaaEq3
import Derived.KernelRfl
set_option linter.unusedVariables false
set_option linter.unusedSimpArgs false
namespace Go.Zt
def Bytes (xs : List Int) : Prop := ∀ x ∈ xs, 0 ≤ x ∧ x ≤ 255
theorem Bytes.get {xs : List Int} (h : Bytes xs) (i : Nat) : 0 ≤ xs.getD i 0 ∧ xs.getD i 0 ≤ 255 := by
  rw [List.getD_eq_getElem?_getD]
  cases hx : xs[i]? with
  | none => simp
  | some x => simpa using h x (List.mem_of_getElem? hx)
theorem eq_of_getD {xs ys : List Int} (hl : xs.length = ys.length) (h : ∀ i, i < xs.length → xs.getD i 0 = ys.getD i 0) : xs = ys := by
  apply List.ext_getElem hl
  intro i h1 h2
  have := h i h1
  simpa [List.getD_eq_getElem?_getD, List.getElem?_eq_getElem h1, List.getElem?_eq_getElem h2] using this

theorem Grow.rdI {M0 M : Mem} {A : Option Addr} {k : IntKind} {xs : List Int} (h : Grow M0 M 1 A xs.length (xs.map (Value.int k))) : RdI M k A xs := h.rd
theorem sizes_ok (lo : Nat) (w h : Int) (M : Mem) : Ac P T lo F.plane_sizes [.int .i64 w, .int .i64 h] M fun r => r = (.bool (decide (1 ≤ w ∧ w ≤ 512 ∧ 1 ≤ h ∧ h ≤ 512)), M) := by
  refine Ac.of (Evp.of_eq (fun k => plane_sizes.entry k ..) ?_)
  refine Evp.dec (fun h1 => ?_) fun h1 => ?_
  · refine Evp.dec (fun h2 => ?_) fun h2 => ?_
    · refine Evp.dec (fun h3 => ?_) fun h3 => ?_
      · refine Evp.ret (Run.ret ?_)
        congr 2
        exact decide_eq_decide.2 (by omega)
      · refine Evp.ret (Run.ret ?_)
        congr 2
        simp; omega
    · refine Evp.ret (Run.ret ?_)
      congr 2
      simp; omega
  · refine Evp.ret (Run.ret ?_)
    congr 2
    simp; omega

def checkS (w h n : Int) : Int := if 1 ≤ w ∧ w ≤ 512 ∧ 1 ≤ h ∧ h ≤ 512 ∧ n = w * h then 0 else 2
theorem area {w h : Int} (h1 : 1 ≤ w ∧ w ≤ 512 ∧ 1 ≤ h ∧ h ≤ 512) : 1 ≤ w * h ∧ w * h ≤ 262144 := by
  have hm : w * h ≤ 512 * 512 := Int.mul_le_mul h1.2.1 h1.2.2.2 (by omega) (by omega)
  have hm0 : 1 * 1 ≤ w * h := Int.mul_le_mul h1.1 h1.2.2.1 (by omega) (by omega)
  omega

theorem check_ok (lo : Nat) (w h : Int) (A : Option Addr) (n c : Nat) (M : Mem) : Ac P T lo F.plane_Check [.agg ⟨[.int .i64 w, .int .i64 h, .slice A n c]⟩] M fun r => r = (.int .i64 (checkS w h n), M) := by
  refine Ac.of (Evp.of_eq (fun k => plane_Check.entry k ..) ?_)
  refine Evp.ob (sizes_ok ..) ?_
  rintro _ rfl
  simp only [ret_int, ret_bool, ret_flt, ret_slc, ret_str, ret_ptr, ret_agg, ret_tup, ob_some, bb_true, bb_false, List.getElem?_cons_zero, List.getElem?_cons_succ, List.length_cons, List.length_nil, Nat.reduceAdd, Nat.reduceLT]
  refine Evp.nb (fun h1 => ?_) fun h1 => ?_
  · refine Evp.ret (Run.ret ?_)
    have := of_decide_eq_false h1
    unfold checkS
    rw [if_neg (by omega)]
  · have h1 := of_decide_eq_true h1
    have hm := area h1
    rw [w64 (by omega)]
    refine Evp.neb (fun h2 => ?_) fun h2 => ?_
    · refine Evp.ret (Run.ret ?_)
      unfold checkS
      rw [if_neg (by omega)]
    · refine Evp.ret (Run.ret ?_)
      unfold checkS
      rw [if_pos (by omega)]

theorem rcheck_ok (lo : Nat) (w h : Int) (A : Option Addr) (n c : Nat) (M : Mem) : Ac P T lo F.zoetroperef05_Check [.agg ⟨[.int .i64 w, .int .i64 h, .slice A n c]⟩] M fun r => r = (.int .i64 (checkS w h n), M) := by
  refine Ac.of (Evp.of_eq (fun k => zoetroperef05_Check.entry k ..) ?_)
  refine Evp.dec (fun h1 => Evp.ret (Run.ret (by unfold checkS; rw [if_neg (by omega)]))) fun h1 => ?_
  refine Evp.dec (fun h2 => Evp.ret (Run.ret (by unfold checkS; rw [if_neg (by omega)]))) fun h2 => ?_
  refine Evp.dec (fun h3 => Evp.ret (Run.ret (by unfold checkS; rw [if_neg (by omega)]))) fun h3 => ?_
  refine Evp.dec (fun h4 => Evp.ret (Run.ret (by unfold checkS; rw [if_neg (by omega)]))) fun h4 => ?_
  have hm := area (w := w) (h := h) (by omega)
  rw [w64 (by omega)]
  refine Evp.neb (fun h5 => ?_) fun h5 => ?_
  · exact Evp.ret (Run.ret (by unfold checkS; rw [if_neg (by omega)]))
  · exact Evp.ret (Run.ret (by unfold checkS; rw [if_pos (by omega)]))

theorem eqBytes_loop (lo : Nat) (A A' : Option Addr) (c c' : Nat) (xs ys : List Int) (M : Mem) (hx : RdI M .u8 A xs) (hy : RdI M .u8 A' ys) (hl : xs.length = ys.length) (hn : xs.length ≤ 140737488351232) :
    ∀ (d i : Nat), xs.length - i = d → i ≤ xs.length → (∀ j, j < i → xs.getD j 0 = ys.getD j 0) → Run P T lo F.zoetroperef00_EqBytes (zoetroperef00_EqBytes.c116 A xs.length c A' ys.length c' i M) fun r => r = (.bool (decide (xs = ys)), M) := by
  intro d
  induction d with
  | zero =>
    intro i hd hi hj
    refine Run.cut (Evp.of_eq (fun k => zoetroperef00_EqBytes.p116 k ..) ?_)
    refine Evp.dec (fun h => absurd h (by omega)) fun _ => Evp.ret (Run.ret ?_)
    rw [decide_eq_true (eq_of_getD hl fun j h => hj j (by omega))]
  | succ d ih =>
    intro i hd hi hj
    refine Run.cut (Evp.of_eq (fun k => zoetroperef00_EqBytes.p116 k ..) ?_)
    refine Evp.dec (fun _ => ?_) fun h => absurd h (by omega)
    refine Evp.pos (by omega) ?_
    simp only [Int.toNat_natCast]
    refine Evp.ldI hx (by omega) fun a _ => ?_
    refine Evp.pos (by omega) ?_
    refine Evp.ldI hy (by omega) fun a' _ => ?_
    refine Evp.neb (fun hne => Evp.ret (Run.ret ?_)) fun he => ?_
    · rw [decide_eq_false (fun e => hne (by rw [e]))]
    · rw [w64 (by omega)]
      exact Evp.ret (ih (i + 1) (by omega) (by omega) fun j h => by
        by_cases hji : j = i
        · subst hji; exact he
        · exact hj j (by omega))
theorem eqBytes_ok (lo : Nat) (A A' : Option Addr) (c c' : Nat) (xs ys : List Int) (M : Mem) (hx : RdI M .u8 A xs) (hy : RdI M .u8 A' ys) (hn : xs.length ≤ 140737488351232) :
    Ac P T lo F.zoetroperef00_EqBytes [.slice A xs.length c, .slice A' ys.length c'] M fun r => r = (.bool (decide (xs = ys)), M) := by
  refine Ac.of (Evp.of_eq (fun k => zoetroperef00_EqBytes.entry k ..) ?_)
  refine Evp.neb (fun h => Evp.ret (Run.ret ?_)) fun h => ?_
  · rw [decide_eq_false (fun e => h (by rw [e]))]
  · exact Evp.ret (eqBytes_loop lo A A' c c' xs ys M hx hy (by omega) hn _ 0 rfl (by omega) fun j h => by omega)

theorem rsame_ok (lo : Nat) (w h w' h' : Int) (A A' : Option Addr) (c c' : Nat) (xs ys : List Int) (M : Mem) (hx : RdI M .u8 A xs) (hy : RdI M .u8 A' ys) (hn : xs.length ≤ 140737488351232) :
    Ac P T lo F.zoetroperef05_Same [.agg ⟨[.int .i64 w, .int .i64 h, .slice A xs.length c]⟩, .agg ⟨[.int .i64 w', .int .i64 h', .slice A' ys.length c']⟩] M fun r => r = (.bool (decide (w = w' ∧ h = h' ∧ xs = ys)), M) := by
  refine Ac.of (Evp.of_eq (fun k => zoetroperef05_Same.entry k ..) ?_)
  refine Evp.eqb (fun h1 => ?_) fun h1 => Evp.ret (Run.ret (by rw [decide_eq_false (fun e => h1 e.1)]))
  refine Evp.eqb (fun h2 => ?_) fun h2 => Evp.ret (Run.ret (by rw [decide_eq_false (fun e => h2 e.2.1)]))
  refine Evp.ob (eqBytes_ok _ _ _ _ _ _ _ _ hx hy hn) ?_
  rintro _ rfl
  simp only [ret_int, ret_bool, ret_flt, ret_slc, ret_str, ret_ptr, ret_agg, ret_tup, ob_some, bb_true, bb_false, List.getElem?_cons_zero, List.getElem?_cons_succ, List.length_cons, List.length_nil, Nat.reduceAdd, Nat.reduceLT]
  refine Evp.ret (Run.ret ?_)
  congr 2
  exact decide_eq_decide.2 (by simp [h1, h2])
theorem copyBytes_ok (lo : Nat) (A : Option Addr) (c : Nat) (xs : List Int) (M : Mem) (hx : RdI M .u8 A xs) (hn : xs.length ≤ 140737488351232) (hlo : lo ≤ M.length) :
    Ac P T lo F.zoetroperef00_CopyBytes [.slice A xs.length c] M fun r => ∃ A' c' M', r = (.slice A' xs.length c', M') ∧ Pre M M' ∧ xs.length ≤ c' ∧ Grow M M' 1 A' xs.length (xs.map (Value.int .u8)) := by
  refine Ac.of (Evp.of_eq (fun k => zoetroperef00_CopyBytes.entry k ..) ?_)
  refine Evp.some hx.src ?_
  obtain ⟨s, M', h1, h2, h3, h4, _, h5⟩ := (Grow.nil (M0 := M) (M := M) (z := 1)).app (bytes := 1) (c := 0) (m := xs.length) (vs := xs.map (Value.int .u8)) (Pre.refl M) hlo (by simp) (by omega) (by omega)
  rw [Nat.zero_add] at h3
  refine Evp.some h1 (Evp.ret (Run.ret ⟨s.a, s.c, M', ?_, h4, by rw [← h3]; exact h5 (Nat.zero_le _), ?_⟩))
  · simp only [h3]
  · rw [h3] at h2; exact h2
theorem copyPlane_ok (lo : Nat) (w h : Int) (A : Option Addr) (c : Nat) (xs : List Int) (M : Mem) (hx : RdI M .u8 A xs) (hn : xs.length ≤ 140737488351232) :
    Ac P T lo F.zoetroperef05_CopyPlane [.agg ⟨[.int .i64 w, .int .i64 h, .slice A xs.length c]⟩] M fun r => ∃ A' c' M', r = (.agg ⟨[.int .i64 w, .int .i64 h, .slice A' xs.length c']⟩, M') ∧ Pre M M' ∧ xs.length ≤ c' ∧ Grow M M' 1 A' xs.length (xs.map (Value.int .u8)) := by
  refine Ac.of (Evp.of_eq (fun k => zoetroperef05_CopyPlane.entry k ..) ?_)
  refine Evp.ob (copyBytes_ok _ _ _ _ _ hx hn (Nat.le_refl _)) ?_
  rintro _ ⟨A', c', M', rfl, h1, h3, h2⟩
  simp only [ret_int, ret_bool, ret_flt, ret_slc, ret_str, ret_ptr, ret_agg, ret_tup, ob_some, bb_true, bb_false, List.getElem?_cons_zero, List.getElem?_cons_succ, List.length_cons, List.length_nil, Nat.reduceAdd, Nat.reduceLT]
  exact Evp.ret (Run.ret ⟨A', c', M', rfl, h1, h3, h2⟩)
def bringS (i n : Int) : Int := if n ≤ 0 then 0 else i % n
theorem bring_ok (lo : Nat) (i n : Int) (M : Mem) (hn : n ≤ 9223372036854775807) : Ac P T lo F.zoetroperef00_Bring [.int .i64 i, .int .i64 n] M fun r => r = (.int .i64 (bringS i n), M) := by
  refine Ac.of (Evp.of_eq (fun k => zoetroperef00_Bring.entry k ..) ?_)
  unfold bringS
  refine Evp.dec (fun h => Evp.ret (Run.ret (by rw [if_pos h]))) fun h => ?_
  rw [if_neg h]
  refine Evp.neg (by omega) ?_
  have h1 : Int.tmod i n = if i % n = 0 ∨ 0 ≤ i then i % n else i % n - n := by
    rw [Int.tmod_eq_emod]
    by_cases h2 : 0 ≤ i ∨ n ∣ i
    · rw [if_pos h2, if_pos (by rcases h2 with h2 | h2; exact .inr h2; exact .inl (Int.emod_eq_zero_of_dvd h2))]; omega
    · rw [if_neg h2, if_neg (by rintro (h3 | h3); exact h2 (.inr (Int.dvd_of_emod_eq_zero h3)); exact h2 (.inl h3))]; omega
  have h2 := Int.emod_nonneg i (b := n) (by omega)
  have h3 := Int.emod_lt_of_pos i (b := n) (by omega)
  refine Evp.dec (fun h4 => Evp.ret ?_) fun h4 => Evp.ret ?_
  · refine Run.cut (Evp.of_eq (fun k => zoetroperef00_Bring.p31 k ..) ?_)
    refine Evp.ret (Run.ret ?_)
    have e : Int.tmod i n + n = i % n := by
      rw [h1] at h4 ⊢
      split at h4
      · omega
      · rename_i h5; rw [if_neg h5]; omega
    rw [e, w64 (by omega)]
  · refine Run.cut (Evp.of_eq (fun k => zoetroperef00_Bring.p31 k ..) ?_)
    refine Evp.ret (Run.ret ?_)
    have e : Int.tmod i n = i % n := by
      rw [h1] at h4 ⊢
      split at h4
      · rename_i h5; rw [if_pos h5]
      · omega
    rw [e]
theorem bringS_lt {i n : Int} (h : 0 < n) : 0 ≤ bringS i n ∧ bringS i n < n := by
  unfold bringS
  rw [if_neg (by omega)]
  exact ⟨Int.emod_nonneg i (by omega), Int.emod_lt_of_pos i h⟩
def clipS (v a b : Int) : Int := if v < a then a else if v > b then b else v
theorem clip_ok (lo : Nat) (v a b : Int) (M : Mem) : Ac P T lo F.zoetroperef00_Clip [.int .i64 v, .int .i64 a, .int .i64 b] M fun r => r = (.int .i64 (clipS v a b), M) := by
  refine Ac.of (Evp.of_eq (fun k => zoetroperef00_Clip.entry k ..) ?_)
  unfold clipS
  refine Evp.dec (fun h => Evp.ret (Run.ret (by rw [if_pos h]))) fun h => ?_
  rw [if_neg h]
  refine Evp.dec (fun h => Evp.ret (Run.ret (by rw [if_pos h]))) fun h => Evp.ret (Run.ret (by rw [if_neg h]))
theorem minmax_clip {v a b : Int} (h : a ≤ b) : minI (maxI v a) b = clipS v a b := by
  unfold minI maxI clipS; repeat' split
  all_goals omega
theorem clipS_le {v a b : Int} (h : a ≤ b) : a ≤ clipS v a b ∧ clipS v a b ≤ b := by
  unfold clipS; split
  · omega
  · split <;> omega

/-! ### Taps -/
def softL : List Int := [0, 0, 0, 128, 0, 0, 0, 0, 0, 2, 28, 62, 34, 2, 0, 0, 0, 0, 26, 62, 36, 4, 0, 0, 0, 0, 22, 62, 40, 4, 0, 0, 0, 0, 20, 60, 42, 6, 0, 0, 0, 0, 18, 58, 44, 8, 0, 0, 0, 0, 16, 56, 46, 10, 0, 0, 0, -2, 16, 54, 48, 12, 0, 0, 0, -2, 14, 52, 52, 14, -2, 0]
def sharpL : List Int := [0, 0, 0, 128, 0, 0, 0, 0, 0, 2, -6, 126, 8, -2, 0, 0, 0, 2, -10, 122, 18, -4, 0, 0, 0, 2, -12, 116, 28, -8, 2, 0, 0, 2, -14, 110, 38, -10, 2, 0, 0, 2, -14, 102, 48, -12, 2, 0, 0, 2, -16, 94, 58, -12, 2, 0, 0, 2, -14, 84, 66, -12, 2, 0, 0, 2, -14, 76, 76, -14, 2, 0]
def rowT (tab : List Int) (n : Nat) : List Int := (List.range 8).map fun j => tab.getD (0 + n * 8 + j) 0
def tapsS (kind at_ : Int) : List Int :=
  if at_ < 0 ∨ at_ > 15 ∨ kind < 0 ∨ kind > 2 then [0, 0, 0, 0, 0, 0, 0, 0]
  else if kind = 2 then [0, 0, 0, 128 - 8 * at_, 8 * at_, 0, 0, 0]
  else if at_ < 9 then rowT (if kind = 0 then sharpL else softL) at_.toNat
  else (rowT (if kind = 0 then sharpL else softL) (16 - at_).toNat).reverse
def tapsE (kind at_ : Int) : Int := if at_ < 0 ∨ at_ > 15 ∨ kind < 0 ∨ kind > 2 then 2 else 0
theorem tapsS_len (kind at_ : Int) : (tapsS kind at_).length = 8 := by
  unfold tapsS; repeat' split
  all_goals simp [rowT]

theorem soft_ok (lo : Nat) (M : Mem) : Ac P T lo F.subpel_soft [] M fun r => r = (.agg ⟨softL.map (Value.int .i64)⟩, M) := by
  refine Ac.of (Evp.of_eq (fun k => subpel_soft.entry k ..) ?_)
  exact Evp.ret (Run.ret rfl)
theorem sharp_ok (lo : Nat) (M : Mem) : Ac P T lo F.subpel_sharp [] M fun r => r = (.agg ⟨sharpL.map (Value.int .i64)⟩, M) := by
  refine Ac.of (Evp.of_eq (fun k => subpel_sharp.entry k ..) ?_)
  exact Evp.ret (Run.ret rfl)

def turnS (xs : List Int) (i : Nat) : List Int := (List.range xs.length).map fun p => if p < i ∨ xs.length - 1 - p < i then xs.getD (xs.length - 1 - p) 0 else xs.getD p 0
theorem turnS_len (xs : List Int) (i : Nat) : (turnS xs i).length = xs.length := by simp [turnS]
theorem turnS_get {xs : List Int} {i p : Nat} (h : p < xs.length) : (turnS xs i).getD p 0 = if p < i ∨ xs.length - 1 - p < i then xs.getD (xs.length - 1 - p) 0 else xs.getD p 0 := getD_map_range h
theorem rev_loop (lo c : Nat) (M0 : Mem) (a : Addr) (xs : List Int) (hlo : lo ≤ M0.length) (hn : xs.length ≤ 140737488351232) : ∀ (d i : Nat) (M : Mem), xs.length - 2 * i = d ∨ xs.length + 1 - 2 * i = d → 2 * i ≤ xs.length + 1 → Pre M0 M → Buf M0 M a ((turnS xs i).map (Value.int .i64)) →
    Run P T lo F.slices_Reverse__int_int (slices_Reverse__int_int.c12 (some a) xs.length c i ((xs.length : Int) - 1 - i) M) fun r => ∃ M', r = (.tuple ⟨[]⟩, M') ∧ Pre M0 M' ∧ M'.length = M.length ∧ Keep (some a) M M' ∧ Buf M0 M' a (xs.reverse.map (Value.int .i64)) := by
  intro d
  induction d using Nat.strongRecOn with
  | ind d ih =>
    intro i M hd hi hp hb
    refine Run.cut (Evp.of_eq (fun k => slices_Reverse__int_int.p12 k ..) ?_)
    refine Evp.dec (fun h => ?_) fun h => ?_
    · have hx := hb.rdI
      have hl := turnS_len xs i
      have e : ((xs.length : Int) - 1 - i).toNat = xs.length - 1 - i := by omega
      refine Evp.pos (by omega) ?_
      rw [e]
      refine Evp.ldI hx (by omega) fun _ _ => ?_
      refine Evp.pos (by omega) ?_
      simp only [Int.toNat_natCast]
      refine Evp.ldI hx (by omega) fun _ _ => ?_
      refine Evp.pos (by omega) (Evp.some rfl ?_)
      obtain ⟨M1, h1, h2, h3, h4, h5⟩ := hb.st (lo := lo) (i := i) (vs := [.int .i64 ((turnS xs i).getD (xs.length - 1 - i) 0)]) hp hlo (by simp [hl]; omega)
      refine Evp.some h1 ?_
      refine Evp.pos (by omega) (Evp.some rfl ?_)
      rw [setL_one, set_map] at h2
      obtain ⟨M2, g1, g2, g3, g4, g5⟩ := h2.st (lo := lo) (i := xs.length - 1 - i) (vs := [.int .i64 ((turnS xs i).getD i 0)]) h3 hlo (by simp [hl]; omega)
      refine Evp.some g1 ?_
      rw [setL_one, set_map] at g2
      have e2 : ((turnS xs i).set i ((turnS xs i).getD (xs.length - 1 - i) 0)).set (xs.length - 1 - i) ((turnS xs i).getD i 0) = turnS xs (i + 1) := by
        apply ext_getD
        · simp [turnS_len]
        · intro p hp
          simp [turnS_len] at hp
          rw [getD_set (by simp [hl]; omega), getD_set (by rw [hl]; omega), turnS_get (i := i + 1) hp, turnS_get (i := i) hp, turnS_get (i := i) (p := i) (by omega), turnS_get (i := i) (p := xs.length - 1 - i) (by omega)]
          by_cases h6 : p = xs.length - 1 - i
          · rw [if_pos h6, if_neg (by omega), if_pos (by omega)]
            congr 1; omega
          · rw [if_neg h6]
            by_cases h7 : p = i
            · rw [if_pos h7, if_neg (by omega), if_pos (by omega)]
              congr 1; omega
            · rw [if_neg h7]
              by_cases h8 : p < i ∨ xs.length - 1 - p < i
              · rw [if_pos h8, if_pos (by omega)]
              · rw [if_neg h8, if_neg (by omega)]
      rw [e2] at g2
      rw [w64 (by omega), w64 (by omega), show (xs.length : Int) - 1 - i - 1 = (xs.length : Int) - 1 - ((i + 1 : Nat) : Int) by omega]
      refine Evp.ret ((ih (xs.length - 2 * (i + 1)) (by omega) (i + 1) M2 (.inl rfl) (by omega) g3 g2).mono ?_)
      rintro r ⟨M', rfl, q1, q2, q3, q4⟩
      exact ⟨M', rfl, q1, by omega, fun b k hb hne => q3 b k (g4 b k (h4 b k hb hne) hne) hne, q4⟩
    · refine Evp.ret (Run.ret ⟨M, rfl, hp, rfl, fun b k hb _ => hb, ?_⟩)
      have : turnS xs i = xs.reverse := by
        apply ext_getD
        · simp [turnS_len]
        · intro p hp
          rw [turnS_len] at hp
          rw [turnS_get hp, getD_rev hp]
          split
          · rfl
          · congr 1; omega
      rwa [this] at hb
theorem reverse_ok (lo c : Nat) (M0 M : Mem) (a : Addr) (xs : List Int) (hlo : lo ≤ M0.length) (hn : xs.length ≤ 140737488351232) (hp : Pre M0 M) (hb : Buf M0 M a (xs.map (Value.int .i64))) :
    Ac P T lo F.slices_Reverse__int_int [.slice (some a) xs.length c] M fun r => ∃ M', r = (.tuple ⟨[]⟩, M') ∧ Pre M0 M' ∧ M'.length = M.length ∧ Keep (some a) M M' ∧ Buf M0 M' a (xs.reverse.map (Value.int .i64)) := by
  refine Ac.of (Evp.of_eq (fun k => slices_Reverse__int_int.entry k ..) ?_)
  rw [w64 (by omega)]
  have : turnS xs 0 = xs := by
    apply ext_getD (turnS_len _ _)
    intro p hp
    rw [turnS_len] at hp
    rw [turnS_get hp, if_neg (by omega)]
  have := rev_loop lo c M0 a xs hlo hn xs.length 0 M (.inl (by omega)) (by omega) hp (by rw [this]; exact hb)
  rw [show (xs.length : Int) - 1 - ((0 : Nat) : Int) = (xs.length : Int) - 1 by omega] at this
  exact Evp.ret this
end Go.Zt
