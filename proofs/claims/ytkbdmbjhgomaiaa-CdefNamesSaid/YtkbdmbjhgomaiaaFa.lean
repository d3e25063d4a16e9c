/- What counts of a difference, of both. -/
import Derived.Test.YtkbdmbjhgomaiaaAb31
import Derived.Test.YtkbdmbjhgomaiaaEq1
import Derived.Test.YtkbdmbjhgomaiaaEq2
import Derived.Test.YtkbdmbjhgomaiaaEq3
import Derived.KernelRfl
set_option linter.unusedVariables false
set_option linter.unusedSimpArgs false
set_option maxRecDepth 100000
namespace Go.Zt
def Bytes (xs : List Int) : Prop := ∀ x ∈ xs, 0 ≤ x ∧ x ≤ 255
theorem Bytes.get {xs : List Int} (h : Bytes xs) (i : Nat) : 0 ≤ xs.getD i 0 ∧ xs.getD i 0 ≤ 255 := by
  rw [List.getD_eq_getElem?_getD]
  cases hx : xs[i]? with
  | none => simp
  | some x => simpa using h x (List.mem_of_getElem? hx)
theorem eq_of_getD {xs ys : List Int} (hl : xs.length = ys.length) (h : ∀ i, i < xs.length → xs.getD i 0 = ys.getD i 0) : xs = ys := by
  apply List.ext_getElem hl
  intro i h1 h2
  have := h i h1
  simpa [List.getD_eq_getElem?_getD, List.getElem?_eq_getElem h1, List.getElem?_eq_getElem h2] using this

theorem Grow.rdI {M0 M : Mem} {A : Option Addr} {k : IntKind} {xs : List Int} (h : Grow M0 M 1 A xs.length (xs.map (Value.int k))) : RdI M k A xs := h.rd
theorem sizes_ok (lo : Nat) (w h : Int) (M : Mem) : Ac P T lo F.plane_sizes [.int .i64 w, .int .i64 h] M fun r => r = (.bool (decide (1 ≤ w ∧ w ≤ 512 ∧ 1 ≤ h ∧ h ≤ 512)), M) := by
  refine Ac.of (Evp.of_eq (fun k => plane_sizes.entry k ..) ?_)
  refine Evp.dec (fun h1 => ?_) fun h1 => ?_
  · refine Evp.dec (fun h2 => ?_) fun h2 => ?_
    · refine Evp.dec (fun h3 => ?_) fun h3 => ?_
      · refine Evp.ret (Run.ret ?_)
        congr 2
        exact decide_eq_decide.2 (by omega)
      · refine Evp.ret (Run.ret ?_)
        congr 2
        simp; omega
    · refine Evp.ret (Run.ret ?_)
      congr 2
      simp; omega
  · refine Evp.ret (Run.ret ?_)
    congr 2
    simp; omega

def checkS (w h n : Int) : Int := if 1 ≤ w ∧ w ≤ 512 ∧ 1 ≤ h ∧ h ≤ 512 ∧ n = w * h then 0 else 2
theorem area {w h : Int} (h1 : 1 ≤ w ∧ w ≤ 512 ∧ 1 ≤ h ∧ h ≤ 512) : 1 ≤ w * h ∧ w * h ≤ 262144 := by
  have hm : w * h ≤ 512 * 512 := Int.mul_le_mul h1.2.1 h1.2.2.2 (by omega) (by omega)
  have hm0 : 1 * 1 ≤ w * h := Int.mul_le_mul h1.1 h1.2.2.1 (by omega) (by omega)
  omega

theorem check_ok (lo : Nat) (w h : Int) (A : Option Addr) (n c : Nat) (M : Mem) : Ac P T lo F.plane_Check [.agg ⟨[.int .i64 w, .int .i64 h, .slice A n c]⟩] M fun r => r = (.int .i64 (checkS w h n), M) := by
  refine Ac.of (Evp.of_eq (fun k => plane_Check.entry k ..) ?_)
  refine Evp.ob (sizes_ok ..) ?_
  rintro _ rfl
  simp only [ret_int, ret_bool, ret_flt, ret_slc, ret_str, ret_ptr, ret_agg, ret_tup, ob_some, bb_true, bb_false, List.getElem?_cons_zero, List.getElem?_cons_succ, List.length_cons, List.length_nil, Nat.reduceAdd, Nat.reduceLT]
  refine Evp.nb (fun h1 => ?_) fun h1 => ?_
  · refine Evp.ret (Run.ret ?_)
    have := of_decide_eq_false h1
    unfold checkS
    rw [if_neg (by omega)]
  · have h1 := of_decide_eq_true h1
    have hm := area h1
    rw [w64 (by omega)]
    refine Evp.neb (fun h2 => ?_) fun h2 => ?_
    · refine Evp.ret (Run.ret ?_)
      unfold checkS
      rw [if_neg (by omega)]
    · refine Evp.ret (Run.ret ?_)
      unfold checkS
      rw [if_pos (by omega)]

theorem checkS_len' {w h n : Int} (h0 : checkS w h n = 0) : 1 ≤ w ∧ w ≤ 512 ∧ 1 ≤ h ∧ h ≤ 512 ∧ n = w * h := by
  unfold checkS at h0
  split at h0
  · assumption
  · omega
theorem rcheck_ok (lo : Nat) (w h : Int) (A : Option Addr) (n c : Nat) (M : Mem) : Ac P T lo F.zoetroperef05_Check [.agg ⟨[.int .i64 w, .int .i64 h, .slice A n c]⟩] M fun r => r = (.int .i64 (checkS w h n), M) := by
  refine Ac.of (Evp.of_eq (fun k => zoetroperef05_Check.entry k ..) ?_)
  refine Evp.dec (fun h1 => Evp.ret (Run.ret (by unfold checkS; rw [if_neg (by omega)]))) fun h1 => ?_
  refine Evp.dec (fun h2 => Evp.ret (Run.ret (by unfold checkS; rw [if_neg (by omega)]))) fun h2 => ?_
  refine Evp.dec (fun h3 => Evp.ret (Run.ret (by unfold checkS; rw [if_neg (by omega)]))) fun h3 => ?_
  refine Evp.dec (fun h4 => Evp.ret (Run.ret (by unfold checkS; rw [if_neg (by omega)]))) fun h4 => ?_
  have hm := area (w := w) (h := h) (by omega)
  rw [w64 (by omega)]
  refine Evp.neb (fun h5 => ?_) fun h5 => ?_
  · exact Evp.ret (Run.ret (by unfold checkS; rw [if_neg (by omega)]))
  · exact Evp.ret (Run.ret (by unfold checkS; rw [if_pos (by omega)]))

theorem eqBytes_loop (lo : Nat) (A A' : Option Addr) (c c' : Nat) (xs ys : List Int) (M : Mem) (hx : RdI M .u8 A xs) (hy : RdI M .u8 A' ys) (hl : xs.length = ys.length) (hn : xs.length ≤ 140737488351232) :
    ∀ (d i : Nat), xs.length - i = d → i ≤ xs.length → (∀ j, j < i → xs.getD j 0 = ys.getD j 0) → Run P T lo F.zoetroperef00_EqBytes (zoetroperef00_EqBytes.c116 A xs.length c A' ys.length c' i M) fun r => r = (.bool (decide (xs = ys)), M) := by
  intro d
  induction d with
  | zero =>
    intro i hd hi hj
    refine Run.cut (Evp.of_eq (fun k => zoetroperef00_EqBytes.p116 k ..) ?_)
    refine Evp.dec (fun h => absurd h (by omega)) fun _ => Evp.ret (Run.ret ?_)
    rw [decide_eq_true (eq_of_getD hl fun j h => hj j (by omega))]
  | succ d ih =>
    intro i hd hi hj
    refine Run.cut (Evp.of_eq (fun k => zoetroperef00_EqBytes.p116 k ..) ?_)
    refine Evp.dec (fun _ => ?_) fun h => absurd h (by omega)
    refine Evp.pos (by omega) ?_
    simp only [Int.toNat_natCast]
    refine Evp.ldI hx (by omega) fun a _ => ?_
    refine Evp.pos (by omega) ?_
    refine Evp.ldI hy (by omega) fun a' _ => ?_
    refine Evp.neb (fun hne => Evp.ret (Run.ret ?_)) fun he => ?_
    · rw [decide_eq_false (fun e => hne (by rw [e]))]
    · rw [w64 (by omega)]
      exact Evp.ret (ih (i + 1) (by omega) (by omega) fun j h => by
        by_cases hji : j = i
        · subst hji; exact he
        · exact hj j (by omega))
theorem eqBytes_ok (lo : Nat) (A A' : Option Addr) (c c' : Nat) (xs ys : List Int) (M : Mem) (hx : RdI M .u8 A xs) (hy : RdI M .u8 A' ys) (hn : xs.length ≤ 140737488351232) :
    Ac P T lo F.zoetroperef00_EqBytes [.slice A xs.length c, .slice A' ys.length c'] M fun r => r = (.bool (decide (xs = ys)), M) := by
  refine Ac.of (Evp.of_eq (fun k => zoetroperef00_EqBytes.entry k ..) ?_)
  refine Evp.neb (fun h => Evp.ret (Run.ret ?_)) fun h => ?_
  · rw [decide_eq_false (fun e => h (by rw [e]))]
  · exact Evp.ret (eqBytes_loop lo A A' c c' xs ys M hx hy (by omega) hn _ 0 rfl (by omega) fun j h => by omega)

theorem copyBytes_ok (lo : Nat) (A : Option Addr) (c : Nat) (xs : List Int) (M : Mem) (hx : RdI M .u8 A xs) (hn : xs.length ≤ 140737488351232) (hlo : lo ≤ M.length) :
    Ac P T lo F.zoetroperef00_CopyBytes [.slice A xs.length c] M fun r => ∃ A' c' M', r = (.slice A' xs.length c', M') ∧ Pre M M' ∧ xs.length ≤ c' ∧ Grow M M' 1 A' xs.length (xs.map (Value.int .u8)) := by
  refine Ac.of (Evp.of_eq (fun k => zoetroperef00_CopyBytes.entry k ..) ?_)
  refine Evp.some hx.src ?_
  obtain ⟨s, M', h1, h2, h3, h4, _, h5⟩ := (Grow.nil (M0 := M) (M := M) (z := 1)).app (bytes := 1) (c := 0) (m := xs.length) (vs := xs.map (Value.int .u8)) (Pre.refl M) hlo (by simp) (by omega) (by omega)
  rw [Nat.zero_add] at h3
  refine Evp.some h1 (Evp.ret (Run.ret ⟨s.a, s.c, M', ?_, h4, by rw [← h3]; exact h5 (Nat.zero_le _), ?_⟩))
  · simp only [h3]
  · rw [h3] at h2; exact h2
theorem copyPlane_ok (lo : Nat) (w h : Int) (A : Option Addr) (c : Nat) (xs : List Int) (M : Mem) (hx : RdI M .u8 A xs) (hn : xs.length ≤ 140737488351232) :
    Ac P T lo F.zoetroperef05_CopyPlane [.agg ⟨[.int .i64 w, .int .i64 h, .slice A xs.length c]⟩] M fun r => ∃ A' c' M', r = (.agg ⟨[.int .i64 w, .int .i64 h, .slice A' xs.length c']⟩, M') ∧ Pre M M' ∧ xs.length ≤ c' ∧ Grow M M' 1 A' xs.length (xs.map (Value.int .u8)) := by
  refine Ac.of (Evp.of_eq (fun k => zoetroperef05_CopyPlane.entry k ..) ?_)
  refine Evp.ob (copyBytes_ok _ _ _ _ _ hx hn (Nat.le_refl _)) ?_
  rintro _ ⟨A', c', M', rfl, h1, h3, h2⟩
  simp only [ret_int, ret_bool, ret_flt, ret_slc, ret_str, ret_ptr, ret_agg, ret_tup, ob_some, bb_true, bb_false, List.getElem?_cons_zero, List.getElem?_cons_succ, List.length_cons, List.length_nil, Nat.reduceAdd, Nat.reduceLT]
  exact Evp.ret (Run.ret ⟨A', c', M', rfl, h1, h3, h2⟩)
def bringS (i n : Int) : Int := if n ≤ 0 then 0 else i % n
theorem bring_ok (lo : Nat) (i n : Int) (M : Mem) (hn : n ≤ 9223372036854775807) : Ac P T lo F.zoetroperef00_Bring [.int .i64 i, .int .i64 n] M fun r => r = (.int .i64 (bringS i n), M) := by
  refine Ac.of (Evp.of_eq (fun k => zoetroperef00_Bring.entry k ..) ?_)
  unfold bringS
  refine Evp.dec (fun h => Evp.ret (Run.ret (by rw [if_pos h]))) fun h => ?_
  rw [if_neg h]
  refine Evp.neg (by omega) ?_
  have h1 : Int.tmod i n = if i % n = 0 ∨ 0 ≤ i then i % n else i % n - n := by
    rw [Int.tmod_eq_emod]
    by_cases h2 : 0 ≤ i ∨ n ∣ i
    · rw [if_pos h2, if_pos (by rcases h2 with h2 | h2; exact .inr h2; exact .inl (Int.emod_eq_zero_of_dvd h2))]; omega
    · rw [if_neg h2, if_neg (by rintro (h3 | h3); exact h2 (.inr (Int.dvd_of_emod_eq_zero h3)); exact h2 (.inl h3))]; omega
  have h2 := Int.emod_nonneg i (b := n) (by omega)
  have h3 := Int.emod_lt_of_pos i (b := n) (by omega)
  refine Evp.dec (fun h4 => Evp.ret ?_) fun h4 => Evp.ret ?_
  · refine Run.cut (Evp.of_eq (fun k => zoetroperef00_Bring.p31 k ..) ?_)
    refine Evp.ret (Run.ret ?_)
    have e : Int.tmod i n + n = i % n := by
      rw [h1] at h4 ⊢
      split at h4
      · omega
      · rename_i h5; rw [if_neg h5]; omega
    rw [e, w64 (by omega)]
  · refine Run.cut (Evp.of_eq (fun k => zoetroperef00_Bring.p31 k ..) ?_)
    refine Evp.ret (Run.ret ?_)
    have e : Int.tmod i n = i % n := by
      rw [h1] at h4 ⊢
      split at h4
      · rename_i h5; rw [if_pos h5]
      · omega
    rw [e]
theorem bringS_lt {i n : Int} (h : 0 < n) : 0 ≤ bringS i n ∧ bringS i n < n := by
  unfold bringS
  rw [if_neg (by omega)]
  exact ⟨Int.emod_nonneg i (by omega), Int.emod_lt_of_pos i h⟩
def clipS (v a b : Int) : Int := if v < a then a else if v > b then b else v
theorem clip_ok (lo : Nat) (v a b : Int) (M : Mem) : Ac P T lo F.zoetroperef00_Clip [.int .i64 v, .int .i64 a, .int .i64 b] M fun r => r = (.int .i64 (clipS v a b), M) := by
  refine Ac.of (Evp.of_eq (fun k => zoetroperef00_Clip.entry k ..) ?_)
  unfold clipS
  refine Evp.dec (fun h => Evp.ret (Run.ret (by rw [if_pos h]))) fun h => ?_
  rw [if_neg h]
  refine Evp.dec (fun h => Evp.ret (Run.ret (by rw [if_pos h]))) fun h => Evp.ret (Run.ret (by rw [if_neg h]))
theorem minmax_clip {v a b : Int} (h : a ≤ b) : minI (maxI v a) b = clipS v a b := by
  unfold minI maxI clipS; repeat' split
  all_goals omega
theorem clipS_le {v a b : Int} (h : a ≤ b) : a ≤ clipS v a b ∧ clipS v a b ≤ b := by
  unfold clipS; split
  · omega
  · split <;> omega
theorem clone_ok (lo : Nat) (A : Option Addr) (c : Nat) (xs : List Int) (M : Mem) (hr : RdI M .u8 A xs) (h0 : xs.length ≠ 0) (hn : xs.length ≤ 140737488351232) (hlo : lo ≤ M.length) :
    Ac P T lo F.slices_Clone__uint8_uint8 [.slice A xs.length c] M fun r => ∃ a cc M', r = (.slice (some a) xs.length cc, M') ∧ Pre M M' ∧ xs.length ≤ cc ∧ Buf M M' a (xs.map (Value.int .u8)) := by
  obtain ⟨a0, hA, _⟩ := hr.ld (i := 0) (by omega)
  refine Ac.of (Evp.of_eq (fun k => slices_Clone__uint8_uint8.entry k ..) ?_)
  refine Evp.ff (by rw [hA]; rfl) ?_
  refine Evp.some ((hr.pre (Pre.app _ _)).src) ?_
  have e : (M ++ [⟨.fx, []⟩] : Mem).app lo 1 1 ⟨some ⟨M.length, 0, none⟩, 0, 0⟩ (xs.map (Value.int .u8)) xs.length = some (⟨some ⟨(M ++ [⟨.fx, []⟩] : Mem).length, 0, some (xs.map (Value.int .u8)).length⟩, xs.length, xs.length⟩, (M ++ [⟨.fx, []⟩] : Mem) ++ [⟨.op 1, xs.map (Value.int .u8)⟩]) := by
    unfold Mem.app
    have hroom : room (0 + xs.length) 1 := by show (0 + xs.length) * 1 ≤ 140737488355328; omega
    simp only [h0, if_false]
    rw [if_pos hroom]
    simp
  refine Evp.some e ?_
  refine Evp.ret (Run.ret ⟨_, _, _, rfl, (Pre.app M _).trans (Pre.app _ _), Nat.le_refl _, ?_⟩)
  exact ⟨.op 1, rfl, by simp, by simp, .inr ⟨1, rfl, rfl⟩⟩
/-- A list of its own, or nothing. -/
def OwnM (M0 M : Mem) (A : Option Addr) (xs : List Int) : Prop := xs = [] ∨ ∃ a, A = some a ∧ Buf M0 M a (xs.map (Value.int .u8))
theorem OwnM.rd {M0 M : Mem} {A : Option Addr} {xs : List Int} (h : OwnM M0 M A xs) : RdI M .u8 A xs := by
  rcases h with rfl | ⟨a, rfl, hb⟩
  · exact RdI.nil
  · exact hb.rdI
theorem OwnM.pre {M0 M M' : Mem} {A : Option Addr} {xs : List Int} (h : OwnM M0 M A xs) (hp : Pre M M') : OwnM M0 M' A xs := by
  rcases h with rfl | ⟨a, rfl, hb⟩
  · exact .inl rfl
  · exact .inr ⟨a, rfl, hb.pre hp⟩
theorem OwnM.floor {M0 M1 M : Mem} {A : Option Addr} {xs : List Int} (h : OwnM M1 M A xs) (hl : M0.length ≤ M1.length) : OwnM M0 M A xs := by
  rcases h with rfl | ⟨a, rfl, hb⟩
  · exact .inl rfl
  · exact .inr ⟨a, rfl, hb.floor hl⟩
theorem Grow.own {M0 M : Mem} {A : Option Addr} {xs : List Int} (h : Grow M0 M 1 A xs.length (xs.map (Value.int .u8))) : OwnM M0 M A xs := by
  by_cases h0 : xs = []
  · exact .inl h0
  · obtain ⟨a, h1, h2⟩ := h.buf (fun e => h0 (List.eq_nil_of_length_eq_zero e))
    exact .inr ⟨a, h1, h2⟩
theorem cloneAny_ok (lo : Nat) (A : Option Addr) (c : Nat) (xs : List Int) (M : Mem) (hr : RdI M .u8 A xs) (hn : xs.length ≤ 140737488351232) (hlo : lo ≤ M.length) :
    Ac P T lo F.slices_Clone__uint8_uint8 [.slice A xs.length c] M fun r => ∃ A' cc M', r = (.slice A' xs.length cc, M') ∧ Pre M M' ∧ xs.length ≤ cc ∧ OwnM M M' A' xs := by
  by_cases h0 : xs.length = 0
  · refine Ac.of (Evp.of_eq (fun k => slices_Clone__uint8_uint8.entry k ..) ?_)
    have hx : xs = [] := List.eq_nil_of_length_eq_zero h0
    subst hx
    refine Evp.bb (fun h => Evp.ret (Run.ret ⟨none, 0, M, rfl, Pre.refl _, Nat.le_refl _, .inl rfl⟩)) fun h => ?_
    have e1 : Mem.src (M ++ [⟨.fx, []⟩] : Mem) A ([] : List Int).length ([] : List Int).length = some [] := (RdI.nil (M := (M ++ [⟨.fx, []⟩] : Mem)) (k := .u8) (A := A)).src
    refine Evp.some e1 ?_
    have e2 : (M ++ [⟨.fx, []⟩] : Mem).app lo 1 1 ⟨some ⟨M.length, 0, none⟩, 0, 0⟩ [] 0 = some (⟨some ⟨M.length, 0, none⟩, 0, 0⟩, (M ++ [⟨.fx, []⟩] : Mem)) := by
      unfold Mem.app; rw [if_pos rfl]
    refine Evp.some e2 ?_
    exact Evp.ret (Run.ret ⟨_, _, _, rfl, Pre.app _ _, Nat.le_refl _, .inl rfl⟩)
  · refine Ac.mono (clone_ok lo A c xs M hr h0 hn hlo) ?_
    rintro _ ⟨a, cc, M', rfl, p, hc, hb⟩
    exact ⟨some a, cc, M', rfl, p, hc, .inr ⟨a, rfl, hb⟩⟩
theorem shru {x : Int} (n : Nat) (hn : n ≤ 64) : shrI .u64 x n = x / 2 ^ n := by
  unfold shrI
  rw [show min n IntKind.u64.bits = n from Nat.min_eq_left hn]
  exact Int.fdiv_eq_ediv_of_nonneg _ (by exact_mod_cast Nat.zero_le _)
/-! ### The length of a number in bits -/
theorem log2_div {x k : Nat} (h : 2 ^ k ≤ x) : Nat.log2 (x / 2 ^ k) + k = Nat.log2 x := by
  have hp : 0 < 2 ^ k := Nat.two_pow_pos k
  have h0 : x / 2 ^ k ≠ 0 := by
    have := (Nat.le_div_iff_mul_le hp (x := 1) (y := x)).2 (by omega)
    omega
  have hx : x ≠ 0 := by omega
  symm
  rw [Nat.log2_eq_iff hx]
  obtain ⟨a, b⟩ := (Nat.log2_eq_iff h0 (k := Nat.log2 (x / 2 ^ k))).1 rfl
  generalize Nat.log2 (x / 2 ^ k) = a' at *
  rw [Nat.le_div_iff_mul_le hp] at a
  rw [Nat.div_lt_iff_lt_mul hp] at b
  rw [show a' + k + 1 = a' + 1 + k by omega, Nat.pow_add, Nat.pow_add]
  exact ⟨a, b⟩
def lenB (x : Nat) : Nat := if x = 0 then 0 else Nat.log2 x + 1
def lenTable : ByteArray := ⟨((List.range 256).map fun x => UInt8.ofNat (lenB x)).toArray⟩
theorem lenTab_get : ∀ x, x < 256 → strAt lenTable x = (lenB x : Nat) := by decide +kernel
theorem lenTab_size : lenTable.size = 256 := by decide +kernel
theorem lenB_div {x k : Nat} (h : 2 ^ k ≤ x) : lenB (x / 2 ^ k) + k = lenB x := by
  have hp : 0 < 2 ^ k := Nat.two_pow_pos k
  have h0 : x / 2 ^ k ≠ 0 := by
    have := (Nat.le_div_iff_mul_le hp (x := 1) (y := x)).2 (by omega)
    omega
  unfold lenB
  rw [if_neg h0, if_neg (by omega)]
  have := log2_div h
  omega
theorem lenB_le {x : Nat} (h : x < 256) : lenB x ≤ 8 := by
  have : ∀ x, x < 256 → lenB x ≤ 8 := by decide +kernel
  exact this x h
theorem len64_ok (lo : Nat) (x : Nat) (M : Mem) (hx : x ≤ 1048576) : Ac P T lo F.math_bits_Len64 [.int .u64 x] M fun r => r = (.int .i64 (lenB x : Nat), M) := by
  have tab : ∀ (y n : Nat), y < 256 → n ≤ 64 → lenB y + n = lenB x → Run P T lo F.math_bits_Len64 (math_bits_Len64.c31 y n M) fun r => r = (.int .i64 (lenB x : Nat), M) := fun y n hy hn e => by
    have hl := lenB_le hy
    have key : ∀ t : ByteArray, t = lenTable → Evp (fun k => pb (0 ≤ IntKind.u8.wrap (y : Int) ∧ IntKind.u8.wrap (y : Int) < (t.size : Int)) (some (.ret (.int .i64 (IntKind.i64.wrap ((n : Int) + (IntKind.i64.wrap (strAt t (IntKind.u8.wrap (y : Int)).toNat))))) M)) none) fun out => Run P T lo F.math_bits_Len64 out fun r => r = (.int .i64 (lenB x : Nat), M) := fun t ht => by
      subst ht
      rw [lenTab_size, wu8 (x := (y : Int)) (by omega)]
      refine Evp.pos (by omega) (Evp.ret (Run.ret ?_))
      rw [Int.toNat_natCast, lenTab_get y hy, w64 (x := ((lenB y : Nat) : Int)) (by omega), w64 (by omega)]
      congr 2
      omega
    refine Run.cut (Evp.of_eq (fun k => math_bits_Len64.p31 k ..) ?_)
    exact key _ (by kernel_rfl)
  have c16 : shrI .u64 (x : Int) 16 = ((x / 65536 : Nat) : Int) := by rw [shru 16 (by omega)]; rfl
  have c8 : ∀ y : Nat, shrI .u64 (y : Int) 8 = ((y / 256 : Nat) : Int) := fun y => by rw [shru 8 (by omega)]; rfl
  have mid : ∀ (y n : Nat), y < 65536 → n ≤ 16 → lenB y + n = lenB x → Run P T lo F.math_bits_Len64 (math_bits_Len64.c15 y n M) fun r => r = (.int .i64 (lenB x : Nat), M) := fun y n hy hn e => by
    refine Run.cut (Evp.of_eq (fun k => math_bits_Len64.p15 k ..) ?_)
    refine Evp.dec (fun h => ?_) fun h => Evp.ret (tab y n (by omega) (by omega) e)
    rw [c8, w64 (by omega), show (n : Int) + 8 = ((n + 8 : Nat) : Int) by omega]
    exact Evp.ret (tab (y / 256) (n + 8) (by omega) (by omega) (by have := lenB_div (x := y) (k := 8) (by omega); rw [show (2 : Nat) ^ 8 = 256 from rfl] at this; omega))
  refine Ac.of (Evp.of_eq (fun k => math_bits_Len64.entry k ..) ?_)
  refine Evp.dec (fun h => absurd h (by omega)) fun _ => Evp.ret ?_
  refine Run.cut (Evp.of_eq (fun k => math_bits_Len64.p7 k ..) ?_)
  refine Evp.dec (fun h => ?_) fun h => Evp.ret (mid x 0 (by omega) (by omega) (by omega))
  rw [c16, show IntKind.i64.wrap (0 + 16) = ((16 : Nat) : Int) from by decide]
  exact Evp.ret (mid (x / 65536) 16 (by omega) (by omega) (by have := lenB_div (x := x) (k := 16) (by omega); rw [show (2 : Nat) ^ 16 = 65536 from rfl] at this; omega))
theorem len_ok (lo : Nat) (x : Nat) (M : Mem) (hx : x ≤ 1048576) : Ac P T lo F.math_bits_Len [.int .u64 x] M fun r => r = (.int .i64 (lenB x : Nat), M) := by
  refine Ac.of (Evp.of_eq (fun k => math_bits_Len.entry k ..) ?_)
  refine Evp.ob (len64_ok lo x M hx) ?_
  rintro _ rfl
  simp only [ret_int, ret_bool, ret_flt, ret_slc, ret_str, ret_ptr, ret_agg, ret_tup, ob_some, bb_true, bb_false, List.getElem?_cons_zero, List.getElem?_cons_succ, List.length_cons, List.length_nil, Nat.reduceAdd, Nat.reduceLT]
  exact Evp.ret (Run.ret rfl)
theorem log_loop (lo : Nat) (M : Mem) : ∀ (x acc : Nat), x ≤ 1048576 → acc ≤ 100 → Nat.log2 x + acc ≤ 100 → Run P T lo F.zoetroperef00_Log (zoetroperef00_Log.c56 x acc M) fun r => r = (.int .i64 ((Nat.log2 x + acc : Nat) : Int), M) := by
  intro x
  induction x using Nat.strongRecOn with
  | ind x ih =>
    intro acc hx ha hs
    refine Run.cut (Evp.of_eq (fun k => zoetroperef00_Log.p56 k ..) ?_)
    refine Evp.dec (fun h => ?_) fun h => Evp.ret (Run.ret ?_)
    · have e := log2_div (x := x) (k := 1) (by omega)
      rw [show Int.tdiv (x : Int) 2 = ((x / 2 : Nat) : Int) from rfl, w64 (x := ((x / 2 : Nat) : Int)) (by omega), w64 (by omega), show (acc : Int) + 1 = ((acc + 1 : Nat) : Int) by omega]
      rw [show x / 2 ^ 1 = x / 2 from rfl] at e
      have := ih (x / 2) (by omega) (acc + 1) (by omega) (by omega) (by omega)
      rw [show Nat.log2 (x / 2) + (acc + 1) = Nat.log2 x + acc by omega] at this
      exact Evp.ret this
    · have : x = 0 ∨ x = 1 := by omega
      rcases this with rfl | rfl
      · rw [show Nat.log2 0 = 0 from by decide, Nat.zero_add]
      · rw [show Nat.log2 1 = 0 from by decide, Nat.zero_add]
theorem log2_le {x : Nat} (h : x ≤ 1048576) : Nat.log2 x ≤ 20 := by
  rcases Nat.eq_zero_or_pos x with rfl | h0
  · decide
  · have := (Nat.log2_lt (n := x) (k := 21) (by omega)).2 (by omega)
    omega
theorem log_ok (lo : Nat) (x : Nat) (M : Mem) (hx : x ≤ 1048576) : Ac P T lo F.zoetroperef00_Log [.int .i64 x] M fun r => r = (.int .i64 (Nat.log2 x : Nat), M) := by
  have := log2_le hx
  refine Ac.of (Evp.of_eq (fun k => zoetroperef00_Log.entry k ..) ?_)
  exact Evp.ret (log_loop lo M x 0 hx (by omega) (by omega))
/-! ### Limit -/
def absS (d : Int) : Int := if d < 0 then -d else d
theorem abs_ok (lo : Nat) (d : Int) (M : Mem) (hd : -9223372036854775807 ≤ d) : Ac P T lo F.zoetroperef00_Abs [.int .i64 d] M fun r => r = (.int .i64 (absS d), M) := by
  refine Ac.of (Evp.of_eq (fun k => zoetroperef00_Abs.entry k ..) ?_)
  refine Evp.dec (fun h => ?_) fun h => ?_
  · rw [w64 (by omega)]
    refine Evp.ret (Run.ret ?_)
    unfold absS; rw [if_pos h, Int.zero_sub]
  · refine Evp.ret (Run.ret ?_)
    unfold absS; rw [if_neg h]
def far20 (v : Int) : Int := clipS v (-1048576) 1048576
theorem far20_le (v : Int) : -1048576 ≤ far20 v ∧ far20 v ≤ 1048576 := clipS_le (by decide)
def shiftS (t p : Int) : Int := clipS (far20 p - (Nat.log2 (far20 t).toNat : Nat)) 0 60
/-- What of a difference counts. -/
def limS (d t p : Int) : Int :=
  if far20 t ≤ 0 then 0 else
    if far20 d < 0 then -(minI (absS (far20 d)) (maxI 0 (far20 t - absS (far20 d) / 2 ^ (shiftS t p).toNat))) else minI (absS (far20 d)) (maxI 0 (far20 t - absS (far20 d) / 2 ^ (shiftS t p).toNat))
theorem cclip_ok (lo : Nat) (v a b : Int) (M : Mem) (h : a ≤ b) : Ac P T lo F.cdef_clip [.int .i64 v, .int .i64 a, .int .i64 b] M fun r => r = (.int .i64 (clipS v a b), M) := by
  refine Ac.of (Evp.of_eq (fun k => cdef_clip.entry k ..) ?_)
  refine Evp.ret (Run.ret ?_)
  have : minI (maxI v a) b = clipS v a b := by
    unfold minI maxI clipS
    repeat' split
    all_goals omega
  rw [this]
theorem lim_parts (d t p : Int) (h : ¬ far20 t ≤ 0) : 0 ≤ shiftS t p ∧ shiftS t p ≤ 60 ∧ 0 ≤ absS (far20 d) ∧ absS (far20 d) ≤ 1048576 ∧ 0 ≤ absS (far20 d) / 2 ^ (shiftS t p).toNat ∧ absS (far20 d) / 2 ^ (shiftS t p).toNat ≤ 1048576 := by
  have h1 := far20_le d
  have h3 : 0 ≤ shiftS t p ∧ shiftS t p ≤ 60 := clipS_le (by decide)
  have h4 : 0 ≤ absS (far20 d) ∧ absS (far20 d) ≤ 1048576 := by unfold absS; split <;> omega
  have hp : (0 : Int) < 2 ^ (shiftS t p).toNat := by
    have := Nat.two_pow_pos (shiftS t p).toNat
    exact_mod_cast this
  have h5 := Int.ediv_nonneg h4.1 (Int.le_of_lt hp)
  have h6 := Int.ediv_le_self (2 ^ (shiftS t p).toNat) h4.1
  exact ⟨h3.1, h3.2, h4.1, h4.2, h5, by omega⟩
theorem limit_ok (lo : Nat) (d t p : Int) (M : Mem) : Ac P T lo F.cdef_Limit [.int .i64 d, .int .i64 t, .int .i64 p] M fun r => r = (.int .i64 (limS d t p), M) := by
  have h1 := far20_le d
  have h2 := far20_le t
  have h3 := far20_le p
  refine Ac.of (Evp.of_eq (fun k => cdef_Limit.entry k ..) ?_)
  refine Evp.ob (cclip_ok lo d _ _ M (by decide)) ?_
  rintro _ rfl
  simp only [ret_int, ret_bool, ret_flt, ret_slc, ret_str, ret_ptr, ret_agg, ret_tup, ob_some, bb_true, bb_false, List.getElem?_cons_zero, List.getElem?_cons_succ, List.length_cons, List.length_nil, Nat.reduceAdd, Nat.reduceLT]
  refine Evp.ob (cclip_ok lo t _ _ M (by decide)) ?_
  rintro _ rfl
  simp only [ret_int, ret_bool, ret_flt, ret_slc, ret_str, ret_ptr, ret_agg, ret_tup, ob_some, bb_true, bb_false, List.getElem?_cons_zero, List.getElem?_cons_succ, List.length_cons, List.length_nil, Nat.reduceAdd, Nat.reduceLT]
  refine Evp.ob (cclip_ok lo p _ _ M (by decide)) ?_
  rintro _ rfl
  simp only [ret_int, ret_bool, ret_flt, ret_slc, ret_str, ret_ptr, ret_agg, ret_tup, ob_some, bb_true, bb_false, List.getElem?_cons_zero, List.getElem?_cons_succ, List.length_cons, List.length_nil, Nat.reduceAdd, Nat.reduceLT]
  refine Evp.dec (fun h => Evp.ret (Run.ret (by unfold limS; rw [if_pos (show far20 t ≤ 0 from h)]))) fun h => ?_
  have h : ¬ far20 t ≤ 0 := h
  obtain ⟨s0, s1, a0, a1, q0, q1⟩ := lim_parts d t p h
  obtain ⟨n, en⟩ := Int.eq_ofNat_of_zero_le (a := far20 t) (by omega)
  have en' : clipS t (-1048576) 1048576 = (n : Int) := en
  have hn : n ≤ 1048576 ∧ n ≠ 0 := by omega
  rw [en', wu64 (x := (n : Int)) (by omega)]
  refine Evp.ob (len_ok lo n M hn.1) ?_
  rintro _ rfl
  simp only [ret_int, ret_bool, ret_flt, ret_slc, ret_str, ret_ptr, ret_agg, ret_tup, ob_some, bb_true, bb_false, List.getElem?_cons_zero, List.getElem?_cons_succ, List.length_cons, List.length_nil, Nat.reduceAdd, Nat.reduceLT]
  have l20 := log2_le hn.1
  have es : IntKind.i64.wrap ((IntKind.i64.wrap (clipS p (-1048576) 1048576 - ((lenB n : Nat) : Int))) + 1) = far20 p - (Nat.log2 n : Nat) := by
    unfold lenB
    rw [if_neg hn.2]
    show IntKind.i64.wrap ((IntKind.i64.wrap (far20 p - ((Nat.log2 n + 1 : Nat) : Int))) + 1) = _
    rw [w64 (x := far20 p - ((Nat.log2 n + 1 : Nat) : Int)) (by omega), w64 (by omega)]
    omega
  rw [es]
  refine Evp.ob (cclip_ok lo _ _ _ M (by decide)) ?_
  rintro _ rfl
  simp only [ret_int, ret_bool, ret_flt, ret_slc, ret_str, ret_ptr, ret_agg, ret_tup, ob_some, bb_true, bb_false, List.getElem?_cons_zero, List.getElem?_cons_succ, List.length_cons, List.length_nil, Nat.reduceAdd, Nat.reduceLT]
  have e2 : clipS (far20 p - (Nat.log2 n : Nat)) 0 60 = shiftS t p := by unfold shiftS; rw [en, Int.toNat_natCast]
  rw [e2]
  refine Evp.neg (by omega) ?_
  have ed : maxI (clipS d (-1048576) 1048576) (IntKind.i64.wrap (0 - clipS d (-1048576) 1048576)) = absS (far20 d) := by
    show maxI (far20 d) (IntKind.i64.wrap (0 - far20 d)) = _
    rw [w64 (by omega)]
    unfold maxI absS
    split <;> split <;> omega
  have ev : minI (absS (far20 d)) (maxI 0 (IntKind.i64.wrap ((n : Int) - shrI .i64 (absS (far20 d)) (shiftS t p).toNat))) = minI (absS (far20 d)) (maxI 0 (far20 t - absS (far20 d) / 2 ^ (shiftS t p).toNat)) := by
    rw [shr_eq _ (by omega), w64 (by omega), en]
  have vb : 0 ≤ minI (absS (far20 d)) (maxI 0 (far20 t - absS (far20 d) / 2 ^ (shiftS t p).toNat)) ∧ minI (absS (far20 d)) (maxI 0 (far20 t - absS (far20 d) / 2 ^ (shiftS t p).toNat)) ≤ 1048576 := by
    unfold minI maxI
    split <;> split <;> omega
  rw [ed, ev]
  refine Evp.dec (fun g => Evp.ret (Run.ret ?_)) fun g => Evp.ret (Run.ret ?_)
  · unfold limS
    rw [if_neg h, if_pos (show far20 d < 0 from g), w64 (by omega), Int.zero_sub]
  · unfold limS
    rw [if_neg h, if_neg (show ¬ far20 d < 0 from g)]
theorem rlimit_ok (lo : Nat) (d t p : Int) (M : Mem) : Ac P T lo F.zoetroperef23_Limit [.int .i64 d, .int .i64 t, .int .i64 p] M fun r => r = (.int .i64 (limS d t p), M) := by
  have h1 := far20_le d
  have h2 := far20_le t
  have h3 := far20_le p
  refine Ac.of (Evp.of_eq (fun k => zoetroperef23_Limit.entry k ..) ?_)
  refine Evp.ob (clip_ok ..) ?_
  rintro _ rfl
  simp only [ret_int, ret_bool, ret_flt, ret_slc, ret_str, ret_ptr, ret_agg, ret_tup, ob_some, bb_true, bb_false, List.getElem?_cons_zero, List.getElem?_cons_succ, List.length_cons, List.length_nil, Nat.reduceAdd, Nat.reduceLT]
  refine Evp.ob (clip_ok ..) ?_
  rintro _ rfl
  simp only [ret_int, ret_bool, ret_flt, ret_slc, ret_str, ret_ptr, ret_agg, ret_tup, ob_some, bb_true, bb_false, List.getElem?_cons_zero, List.getElem?_cons_succ, List.length_cons, List.length_nil, Nat.reduceAdd, Nat.reduceLT]
  refine Evp.ob (clip_ok ..) ?_
  rintro _ rfl
  simp only [ret_int, ret_bool, ret_flt, ret_slc, ret_str, ret_ptr, ret_agg, ret_tup, ob_some, bb_true, bb_false, List.getElem?_cons_zero, List.getElem?_cons_succ, List.length_cons, List.length_nil, Nat.reduceAdd, Nat.reduceLT]
  refine Evp.dec (fun h => Evp.ret (Run.ret (by unfold limS; rw [if_pos (show far20 t ≤ 0 from h)]))) fun h => ?_
  have h : ¬ far20 t ≤ 0 := h
  obtain ⟨s0, s1, a0, a1, q0, q1⟩ := lim_parts d t p h
  obtain ⟨n, en⟩ := Int.eq_ofNat_of_zero_le (a := far20 t) (by omega)
  have en' : clipS t (-1048576) 1048576 = (n : Int) := en
  have hn : n ≤ 1048576 ∧ n ≠ 0 := by omega
  rw [en']
  refine Evp.ob (log_ok lo n M hn.1) ?_
  rintro _ rfl
  simp only [ret_int, ret_bool, ret_flt, ret_slc, ret_str, ret_ptr, ret_agg, ret_tup, ob_some, bb_true, bb_false, List.getElem?_cons_zero, List.getElem?_cons_succ, List.length_cons, List.length_nil, Nat.reduceAdd, Nat.reduceLT]
  have l20 := log2_le hn.1
  have ed : clipS d (-1048576) 1048576 = far20 d := rfl
  have ep : clipS p (-1048576) 1048576 = far20 p := rfl
  rw [ed, ep]
  refine Evp.ob (abs_ok lo (far20 d) M (by omega)) ?_
  rintro _ rfl
  simp only [ret_int, ret_bool, ret_flt, ret_slc, ret_str, ret_ptr, ret_agg, ret_tup, ob_some, bb_true, bb_false, List.getElem?_cons_zero, List.getElem?_cons_succ, List.length_cons, List.length_nil, Nat.reduceAdd, Nat.reduceLT]
  refine Evp.ob (abs_ok lo (far20 d) M (by omega)) ?_
  rintro _ rfl
  simp only [ret_int, ret_bool, ret_flt, ret_slc, ret_str, ret_ptr, ret_agg, ret_tup, ob_some, bb_true, bb_false, List.getElem?_cons_zero, List.getElem?_cons_succ, List.length_cons, List.length_nil, Nat.reduceAdd, Nat.reduceLT]
  have e2 : minI (maxI (IntKind.i64.wrap (far20 p - (Nat.log2 n : Nat))) 0) 60 = shiftS t p := by
    rw [w64 (by omega)]
    unfold shiftS
    rw [en, Int.toNat_natCast]
    unfold minI maxI clipS
    repeat' split
    all_goals omega
  rw [e2]
  refine Evp.neg (by omega) ?_
  have ev : minI (absS (far20 d)) (maxI 0 (IntKind.i64.wrap ((n : Int) - shrI .i64 (absS (far20 d)) (shiftS t p).toNat))) = minI (absS (far20 d)) (maxI 0 (far20 t - absS (far20 d) / 2 ^ (shiftS t p).toNat)) := by
    rw [shr_eq _ (by omega), w64 (by omega), en]
  have vb : 0 ≤ minI (absS (far20 d)) (maxI 0 (far20 t - absS (far20 d) / 2 ^ (shiftS t p).toNat)) ∧ minI (absS (far20 d)) (maxI 0 (far20 t - absS (far20 d) / 2 ^ (shiftS t p).toNat)) ≤ 1048576 := by
    unfold minI maxI
    split <;> split <;> omega
  rw [ev]
  refine Evp.dec (fun g => Evp.ret (Run.ret ?_)) fun g => Evp.ret (Run.ret ?_)
  · unfold limS
    rw [if_neg h, if_pos g, w64 (by omega), Int.zero_sub]
  · unfold limS
    rw [if_neg h, if_neg g]
end Go.Zt
