/- Units, taps, all seven, of both texts. -/
import Derived.Test.YtfghnhhhlckafaaAb31
import Derived.Test.YtfghnhhhlckafaaEq1
import Derived.Test.YtfghnhhhlckafaaEq2
import Derived.KernelRfl
set_option linter.unusedVariables false
set_option linter.unusedSimpArgs false
set_option maxRecDepth 100000
namespace Go.Zt
def Bytes (xs : List Int) : Prop := ∀ x ∈ xs, 0 ≤ x ∧ x ≤ 255
theorem Bytes.get {xs : List Int} (h : Bytes xs) (i : Nat) : 0 ≤ xs.getD i 0 ∧ xs.getD i 0 ≤ 255 := by
  rw [List.getD_eq_getElem?_getD]
  cases hx : xs[i]? with
  | none => simp
  | some x => simpa using h x (List.mem_of_getElem? hx)
theorem eq_of_getD {xs ys : List Int} (hl : xs.length = ys.length) (h : ∀ i, i < xs.length → xs.getD i 0 = ys.getD i 0) : xs = ys := by
  apply List.ext_getElem hl
  intro i h1 h2
  have := h i h1
  simpa [List.getD_eq_getElem?_getD, List.getElem?_eq_getElem h1, List.getElem?_eq_getElem h2] using this

theorem Grow.rdI {M0 M : Mem} {A : Option Addr} {k : IntKind} {xs : List Int} (h : Grow M0 M 1 A xs.length (xs.map (Value.int k))) : RdI M k A xs := h.rd
theorem sizes_ok (lo : Nat) (w h : Int) (M : Mem) : Ac P T lo F.plane_sizes [.int .i64 w, .int .i64 h] M fun r => r = (.bool (decide (1 ≤ w ∧ w ≤ 512 ∧ 1 ≤ h ∧ h ≤ 512)), M) := by
  refine Ac.of (Evp.of_eq (fun k => plane_sizes.entry k ..) ?_)
  refine Evp.dec (fun h1 => ?_) fun h1 => ?_
  · refine Evp.dec (fun h2 => ?_) fun h2 => ?_
    · refine Evp.dec (fun h3 => ?_) fun h3 => ?_
      · refine Evp.ret (Run.ret ?_)
        congr 2
        exact decide_eq_decide.2 (by omega)
      · refine Evp.ret (Run.ret ?_)
        congr 2
        simp; omega
    · refine Evp.ret (Run.ret ?_)
      congr 2
      simp; omega
  · refine Evp.ret (Run.ret ?_)
    congr 2
    simp; omega

def checkS (w h n : Int) : Int := if 1 ≤ w ∧ w ≤ 512 ∧ 1 ≤ h ∧ h ≤ 512 ∧ n = w * h then 0 else 2
theorem area {w h : Int} (h1 : 1 ≤ w ∧ w ≤ 512 ∧ 1 ≤ h ∧ h ≤ 512) : 1 ≤ w * h ∧ w * h ≤ 262144 := by
  have hm : w * h ≤ 512 * 512 := Int.mul_le_mul h1.2.1 h1.2.2.2 (by omega) (by omega)
  have hm0 : 1 * 1 ≤ w * h := Int.mul_le_mul h1.1 h1.2.2.1 (by omega) (by omega)
  omega

theorem check_ok (lo : Nat) (w h : Int) (A : Option Addr) (n c : Nat) (M : Mem) : Ac P T lo F.plane_Check [.agg ⟨[.int .i64 w, .int .i64 h, .slice A n c]⟩] M fun r => r = (.int .i64 (checkS w h n), M) := by
  refine Ac.of (Evp.of_eq (fun k => plane_Check.entry k ..) ?_)
  refine Evp.ob (sizes_ok ..) ?_
  rintro _ rfl
  simp only [ret_int, ret_bool, ret_flt, ret_slc, ret_str, ret_ptr, ret_agg, ret_tup, ob_some, bb_true, bb_false, List.getElem?_cons_zero, List.getElem?_cons_succ, List.length_cons, List.length_nil, Nat.reduceAdd, Nat.reduceLT]
  refine Evp.nb (fun h1 => ?_) fun h1 => ?_
  · refine Evp.ret (Run.ret ?_)
    have := of_decide_eq_false h1
    unfold checkS
    rw [if_neg (by omega)]
  · have h1 := of_decide_eq_true h1
    have hm := area h1
    rw [w64 (by omega)]
    refine Evp.neb (fun h2 => ?_) fun h2 => ?_
    · refine Evp.ret (Run.ret ?_)
      unfold checkS
      rw [if_neg (by omega)]
    · refine Evp.ret (Run.ret ?_)
      unfold checkS
      rw [if_pos (by omega)]

theorem checkS_len' {w h n : Int} (h0 : checkS w h n = 0) : 1 ≤ w ∧ w ≤ 512 ∧ 1 ≤ h ∧ h ≤ 512 ∧ n = w * h := by
  unfold checkS at h0
  split at h0
  · assumption
  · omega
theorem rcheck_ok (lo : Nat) (w h : Int) (A : Option Addr) (n c : Nat) (M : Mem) : Ac P T lo F.zoetroperef05_Check [.agg ⟨[.int .i64 w, .int .i64 h, .slice A n c]⟩] M fun r => r = (.int .i64 (checkS w h n), M) := by
  refine Ac.of (Evp.of_eq (fun k => zoetroperef05_Check.entry k ..) ?_)
  refine Evp.dec (fun h1 => Evp.ret (Run.ret (by unfold checkS; rw [if_neg (by omega)]))) fun h1 => ?_
  refine Evp.dec (fun h2 => Evp.ret (Run.ret (by unfold checkS; rw [if_neg (by omega)]))) fun h2 => ?_
  refine Evp.dec (fun h3 => Evp.ret (Run.ret (by unfold checkS; rw [if_neg (by omega)]))) fun h3 => ?_
  refine Evp.dec (fun h4 => Evp.ret (Run.ret (by unfold checkS; rw [if_neg (by omega)]))) fun h4 => ?_
  have hm := area (w := w) (h := h) (by omega)
  rw [w64 (by omega)]
  refine Evp.neb (fun h5 => ?_) fun h5 => ?_
  · exact Evp.ret (Run.ret (by unfold checkS; rw [if_neg (by omega)]))
  · exact Evp.ret (Run.ret (by unfold checkS; rw [if_pos (by omega)]))

theorem eqBytes_loop (lo : Nat) (A A' : Option Addr) (c c' : Nat) (xs ys : List Int) (M : Mem) (hx : RdI M .u8 A xs) (hy : RdI M .u8 A' ys) (hl : xs.length = ys.length) (hn : xs.length ≤ 140737488351232) :
    ∀ (d i : Nat), xs.length - i = d → i ≤ xs.length → (∀ j, j < i → xs.getD j 0 = ys.getD j 0) → Run P T lo F.zoetroperef00_EqBytes (zoetroperef00_EqBytes.c116 A xs.length c A' ys.length c' i M) fun r => r = (.bool (decide (xs = ys)), M) := by
  intro d
  induction d with
  | zero =>
    intro i hd hi hj
    refine Run.cut (Evp.of_eq (fun k => zoetroperef00_EqBytes.p116 k ..) ?_)
    refine Evp.dec (fun h => absurd h (by omega)) fun _ => Evp.ret (Run.ret ?_)
    rw [decide_eq_true (eq_of_getD hl fun j h => hj j (by omega))]
  | succ d ih =>
    intro i hd hi hj
    refine Run.cut (Evp.of_eq (fun k => zoetroperef00_EqBytes.p116 k ..) ?_)
    refine Evp.dec (fun _ => ?_) fun h => absurd h (by omega)
    refine Evp.pos (by omega) ?_
    simp only [Int.toNat_natCast]
    refine Evp.ldI hx (by omega) fun a _ => ?_
    refine Evp.pos (by omega) ?_
    refine Evp.ldI hy (by omega) fun a' _ => ?_
    refine Evp.neb (fun hne => Evp.ret (Run.ret ?_)) fun he => ?_
    · rw [decide_eq_false (fun e => hne (by rw [e]))]
    · rw [w64 (by omega)]
      exact Evp.ret (ih (i + 1) (by omega) (by omega) fun j h => by
        by_cases hji : j = i
        · subst hji; exact he
        · exact hj j (by omega))
theorem eqBytes_ok (lo : Nat) (A A' : Option Addr) (c c' : Nat) (xs ys : List Int) (M : Mem) (hx : RdI M .u8 A xs) (hy : RdI M .u8 A' ys) (hn : xs.length ≤ 140737488351232) :
    Ac P T lo F.zoetroperef00_EqBytes [.slice A xs.length c, .slice A' ys.length c'] M fun r => r = (.bool (decide (xs = ys)), M) := by
  refine Ac.of (Evp.of_eq (fun k => zoetroperef00_EqBytes.entry k ..) ?_)
  refine Evp.neb (fun h => Evp.ret (Run.ret ?_)) fun h => ?_
  · rw [decide_eq_false (fun e => h (by rw [e]))]
  · exact Evp.ret (eqBytes_loop lo A A' c c' xs ys M hx hy (by omega) hn _ 0 rfl (by omega) fun j h => by omega)

theorem copyBytes_ok (lo : Nat) (A : Option Addr) (c : Nat) (xs : List Int) (M : Mem) (hx : RdI M .u8 A xs) (hn : xs.length ≤ 140737488351232) (hlo : lo ≤ M.length) :
    Ac P T lo F.zoetroperef00_CopyBytes [.slice A xs.length c] M fun r => ∃ A' c' M', r = (.slice A' xs.length c', M') ∧ Pre M M' ∧ xs.length ≤ c' ∧ Grow M M' 1 A' xs.length (xs.map (Value.int .u8)) := by
  refine Ac.of (Evp.of_eq (fun k => zoetroperef00_CopyBytes.entry k ..) ?_)
  refine Evp.some hx.src ?_
  obtain ⟨s, M', h1, h2, h3, h4, _, h5⟩ := (Grow.nil (M0 := M) (M := M) (z := 1)).app (bytes := 1) (c := 0) (m := xs.length) (vs := xs.map (Value.int .u8)) (Pre.refl M) hlo (by simp) (by omega) (by omega)
  rw [Nat.zero_add] at h3
  refine Evp.some h1 (Evp.ret (Run.ret ⟨s.a, s.c, M', ?_, h4, by rw [← h3]; exact h5 (Nat.zero_le _), ?_⟩))
  · simp only [h3]
  · rw [h3] at h2; exact h2
theorem copyPlane_ok (lo : Nat) (w h : Int) (A : Option Addr) (c : Nat) (xs : List Int) (M : Mem) (hx : RdI M .u8 A xs) (hn : xs.length ≤ 140737488351232) :
    Ac P T lo F.zoetroperef05_CopyPlane [.agg ⟨[.int .i64 w, .int .i64 h, .slice A xs.length c]⟩] M fun r => ∃ A' c' M', r = (.agg ⟨[.int .i64 w, .int .i64 h, .slice A' xs.length c']⟩, M') ∧ Pre M M' ∧ xs.length ≤ c' ∧ Grow M M' 1 A' xs.length (xs.map (Value.int .u8)) := by
  refine Ac.of (Evp.of_eq (fun k => zoetroperef05_CopyPlane.entry k ..) ?_)
  refine Evp.ob (copyBytes_ok _ _ _ _ _ hx hn (Nat.le_refl _)) ?_
  rintro _ ⟨A', c', M', rfl, h1, h3, h2⟩
  simp only [ret_int, ret_bool, ret_flt, ret_slc, ret_str, ret_ptr, ret_agg, ret_tup, ob_some, bb_true, bb_false, List.getElem?_cons_zero, List.getElem?_cons_succ, List.length_cons, List.length_nil, Nat.reduceAdd, Nat.reduceLT]
  exact Evp.ret (Run.ret ⟨A', c', M', rfl, h1, h3, h2⟩)
def bringS (i n : Int) : Int := if n ≤ 0 then 0 else i % n
theorem bring_ok (lo : Nat) (i n : Int) (M : Mem) (hn : n ≤ 9223372036854775807) : Ac P T lo F.zoetroperef00_Bring [.int .i64 i, .int .i64 n] M fun r => r = (.int .i64 (bringS i n), M) := by
  refine Ac.of (Evp.of_eq (fun k => zoetroperef00_Bring.entry k ..) ?_)
  unfold bringS
  refine Evp.dec (fun h => Evp.ret (Run.ret (by rw [if_pos h]))) fun h => ?_
  rw [if_neg h]
  refine Evp.neg (by omega) ?_
  have h1 : Int.tmod i n = if i % n = 0 ∨ 0 ≤ i then i % n else i % n - n := by
    rw [Int.tmod_eq_emod]
    by_cases h2 : 0 ≤ i ∨ n ∣ i
    · rw [if_pos h2, if_pos (by rcases h2 with h2 | h2; exact .inr h2; exact .inl (Int.emod_eq_zero_of_dvd h2))]; omega
    · rw [if_neg h2, if_neg (by rintro (h3 | h3); exact h2 (.inr (Int.dvd_of_emod_eq_zero h3)); exact h2 (.inl h3))]; omega
  have h2 := Int.emod_nonneg i (b := n) (by omega)
  have h3 := Int.emod_lt_of_pos i (b := n) (by omega)
  refine Evp.dec (fun h4 => Evp.ret ?_) fun h4 => Evp.ret ?_
  · refine Run.cut (Evp.of_eq (fun k => zoetroperef00_Bring.p31 k ..) ?_)
    refine Evp.ret (Run.ret ?_)
    have e : Int.tmod i n + n = i % n := by
      rw [h1] at h4 ⊢
      split at h4
      · omega
      · rename_i h5; rw [if_neg h5]; omega
    rw [e, w64 (by omega)]
  · refine Run.cut (Evp.of_eq (fun k => zoetroperef00_Bring.p31 k ..) ?_)
    refine Evp.ret (Run.ret ?_)
    have e : Int.tmod i n = i % n := by
      rw [h1] at h4 ⊢
      split at h4
      · rename_i h5; rw [if_pos h5]
      · omega
    rw [e]
theorem bringS_lt {i n : Int} (h : 0 < n) : 0 ≤ bringS i n ∧ bringS i n < n := by
  unfold bringS
  rw [if_neg (by omega)]
  exact ⟨Int.emod_nonneg i (by omega), Int.emod_lt_of_pos i h⟩
def clipS (v a b : Int) : Int := if v < a then a else if v > b then b else v
theorem clip_ok (lo : Nat) (v a b : Int) (M : Mem) : Ac P T lo F.zoetroperef00_Clip [.int .i64 v, .int .i64 a, .int .i64 b] M fun r => r = (.int .i64 (clipS v a b), M) := by
  refine Ac.of (Evp.of_eq (fun k => zoetroperef00_Clip.entry k ..) ?_)
  unfold clipS
  refine Evp.dec (fun h => Evp.ret (Run.ret (by rw [if_pos h]))) fun h => ?_
  rw [if_neg h]
  refine Evp.dec (fun h => Evp.ret (Run.ret (by rw [if_pos h]))) fun h => Evp.ret (Run.ret (by rw [if_neg h]))
theorem minmax_clip {v a b : Int} (h : a ≤ b) : minI (maxI v a) b = clipS v a b := by
  unfold minI maxI clipS; repeat' split
  all_goals omega
theorem clipS_le {v a b : Int} (h : a ≤ b) : a ≤ clipS v a b ∧ clipS v a b ≤ b := by
  unfold clipS; split
  · omega
  · split <;> omega
theorem clone_ok (lo : Nat) (A : Option Addr) (c : Nat) (xs : List Int) (M : Mem) (hr : RdI M .u8 A xs) (h0 : xs.length ≠ 0) (hn : xs.length ≤ 140737488351232) (hlo : lo ≤ M.length) :
    Ac P T lo F.slices_Clone__uint8_uint8 [.slice A xs.length c] M fun r => ∃ a cc M', r = (.slice (some a) xs.length cc, M') ∧ Pre M M' ∧ xs.length ≤ cc ∧ Buf M M' a (xs.map (Value.int .u8)) := by
  obtain ⟨a0, hA, _⟩ := hr.ld (i := 0) (by omega)
  refine Ac.of (Evp.of_eq (fun k => slices_Clone__uint8_uint8.entry k ..) ?_)
  refine Evp.ff (by rw [hA]; rfl) ?_
  refine Evp.some ((hr.pre (Pre.app _ _)).src) ?_
  have e : (M ++ [⟨.fx, []⟩] : Mem).app lo 1 1 ⟨some ⟨M.length, 0, none⟩, 0, 0⟩ (xs.map (Value.int .u8)) xs.length = some (⟨some ⟨(M ++ [⟨.fx, []⟩] : Mem).length, 0, some (xs.map (Value.int .u8)).length⟩, xs.length, xs.length⟩, (M ++ [⟨.fx, []⟩] : Mem) ++ [⟨.op 1, xs.map (Value.int .u8)⟩]) := by
    unfold Mem.app
    have hroom : room (0 + xs.length) 1 := by show (0 + xs.length) * 1 ≤ 140737488355328; omega
    simp only [h0, if_false]
    rw [if_pos hroom]
    simp
  refine Evp.some e ?_
  refine Evp.ret (Run.ret ⟨_, _, _, rfl, (Pre.app M _).trans (Pre.app _ _), Nat.le_refl _, ?_⟩)
  exact ⟨.op 1, rfl, by simp, by simp, .inr ⟨1, rfl, rfl⟩⟩
/-- A list of its own, or nothing. -/
def OwnM (M0 M : Mem) (A : Option Addr) (xs : List Int) : Prop := xs = [] ∨ ∃ a, A = some a ∧ Buf M0 M a (xs.map (Value.int .u8))
theorem OwnM.rd {M0 M : Mem} {A : Option Addr} {xs : List Int} (h : OwnM M0 M A xs) : RdI M .u8 A xs := by
  rcases h with rfl | ⟨a, rfl, hb⟩
  · exact RdI.nil
  · exact hb.rdI
theorem OwnM.pre {M0 M M' : Mem} {A : Option Addr} {xs : List Int} (h : OwnM M0 M A xs) (hp : Pre M M') : OwnM M0 M' A xs := by
  rcases h with rfl | ⟨a, rfl, hb⟩
  · exact .inl rfl
  · exact .inr ⟨a, rfl, hb.pre hp⟩
theorem OwnM.floor {M0 M1 M : Mem} {A : Option Addr} {xs : List Int} (h : OwnM M1 M A xs) (hl : M0.length ≤ M1.length) : OwnM M0 M A xs := by
  rcases h with rfl | ⟨a, rfl, hb⟩
  · exact .inl rfl
  · exact .inr ⟨a, rfl, hb.floor hl⟩
theorem Grow.own {M0 M : Mem} {A : Option Addr} {xs : List Int} (h : Grow M0 M 1 A xs.length (xs.map (Value.int .u8))) : OwnM M0 M A xs := by
  by_cases h0 : xs = []
  · exact .inl h0
  · obtain ⟨a, h1, h2⟩ := h.buf (fun e => h0 (List.eq_nil_of_length_eq_zero e))
    exact .inr ⟨a, h1, h2⟩
theorem cloneAny_ok (lo : Nat) (A : Option Addr) (c : Nat) (xs : List Int) (M : Mem) (hr : RdI M .u8 A xs) (hn : xs.length ≤ 140737488351232) (hlo : lo ≤ M.length) :
    Ac P T lo F.slices_Clone__uint8_uint8 [.slice A xs.length c] M fun r => ∃ A' cc M', r = (.slice A' xs.length cc, M') ∧ Pre M M' ∧ xs.length ≤ cc ∧ OwnM M M' A' xs := by
  by_cases h0 : xs.length = 0
  · refine Ac.of (Evp.of_eq (fun k => slices_Clone__uint8_uint8.entry k ..) ?_)
    have hx : xs = [] := List.eq_nil_of_length_eq_zero h0
    subst hx
    refine Evp.bb (fun h => Evp.ret (Run.ret ⟨none, 0, M, rfl, Pre.refl _, Nat.le_refl _, .inl rfl⟩)) fun h => ?_
    have e1 : Mem.src (M ++ [⟨.fx, []⟩] : Mem) A ([] : List Int).length ([] : List Int).length = some [] := (RdI.nil (M := (M ++ [⟨.fx, []⟩] : Mem)) (k := .u8) (A := A)).src
    refine Evp.some e1 ?_
    have e2 : (M ++ [⟨.fx, []⟩] : Mem).app lo 1 1 ⟨some ⟨M.length, 0, none⟩, 0, 0⟩ [] 0 = some (⟨some ⟨M.length, 0, none⟩, 0, 0⟩, (M ++ [⟨.fx, []⟩] : Mem)) := by
      unfold Mem.app; rw [if_pos rfl]
    refine Evp.some e2 ?_
    exact Evp.ret (Run.ret ⟨_, _, _, rfl, Pre.app _ _, Nat.le_refl _, .inl rfl⟩)
  · refine Ac.mono (clone_ok lo A c xs M hr h0 hn hlo) ?_
    rintro _ ⟨a, cc, M', rfl, p, hc, hb⟩
    exact ⟨some a, cc, M', rfl, p, hc, .inr ⟨a, rfl, hb⟩⟩
theorem slAddr_00 (B : Option Addr) (q : Nat) : slAddr 1 B 0 q = B := by
  unfold slAddr; split
  · rfl
  · cases B <;> rfl
/-! ### Keys -/
abbrev wfI (x : Int) : Prop := (Lit.int .i64 x).wf = true
theorem key3 {a b c : Int} (wa : wfI a) (wb : wfI b) (wc : wfI c) : P.keyLits 8 23 [.int .i64 a, .int .i64 b, .int .i64 c] = some [.int .i64 a, .int .i64 b, .int .i64 c] :=
  keyLits_ints (l := [a, b, c]) (d := 6) (e := 3) (n := 3) Go.Proofs.Try.underlying23 Go.Proofs.Try.underlying3 (by kernel_rfl) (by kernel_rfl) rfl (by simp; exact ⟨wa, wb, wc⟩)
theorem keyB (b : Bool) : P.keyLits 8 4 [.bool b] = some [.bool b] := by
  unfold Program.keyLits
  simp only [Go.Proofs.Try.underlying4]
theorem key_unit {b : Bool} {a1 a2 a3 a4 a5 a6 : Int} (w1 : wfI a1) (w2 : wfI a2) (w3 : wfI a3) (w4 : wfI a4) (w5 : wfI a5) (w6 : wfI a6) :
    P.keyLits 9 25 [.bool b, .int .i64 a1, .int .i64 a2, .int .i64 a3, .int .i64 a4, .int .i64 a5, .int .i64 a6] = some [.bool b, .int .i64 a1, .int .i64 a2, .int .i64 a3, .int .i64 a4, .int .i64 a5, .int .i64 a6] := by
  unfold Program.keyLits
  simp only [Go.Proofs.Try.underlying25]
  rw [if_pos ⟨by kernel_rfl, by kernel_rfl⟩]
  have c4 : P.cellsOf 4 = 1 := by kernel_rfl
  have c23 : P.cellsOf 23 = 3 := by kernel_rfl
  simp only [List.mapM_cons, List.mapM_nil, c4, c23, List.drop_zero, List.drop_succ_cons, List.take_succ_cons, List.take_zero, keyB, key3 w1 w2 w3, key3 w4 w5 w6]
  rfl
theorem sameLits_eq (la lb : List Lit) : sameLits la lb = true ↔ la = lb := by
  unfold sameLits
  exact @decide_eq_true_iff _ (Classical.propDecidable _)
theorem key7 {l : List Int} (hl : l.length = 7) (hw : ∀ x ∈ l, -65536 ≤ x ∧ x ≤ 65536) : P.keyLits 9 26 (l.map (Value.int .i64)) = some (l.map (Lit.int .i64)) :=
  keyLits_ints (d := 7) (e := 3) (n := 7) Go.Proofs.Try.underlying26 Go.Proofs.Try.underlying3 (by kernel_rfl) (by kernel_rfl) hl fun x hx => by
    have := hw x hx
    simp [Lit.wf, IntKind.min, IntKind.max, IntKind.signed, IntKind.bits]; omega

/-! ### Taps -/
structure Tp where
  a : Int
  b : Int
  c : Int
def TapsP (t : Tp) : Prop := (-5 ≤ t.a ∧ t.a ≤ 10) ∧ (-23 ≤ t.b ∧ t.b ≤ 8) ∧ (-17 ≤ t.c ∧ t.c ≤ 46)
instance (t : Tp) : Decidable (TapsP t) := inferInstanceAs (Decidable (_ ∧ _))
def sevL (t : Tp) : List Int := if TapsP t then [t.a, t.b, t.c, 128 - 2 * (t.a + t.b + t.c), t.c, t.b, t.a] else [0, 0, 0, 0, 0, 0, 0]
theorem sevL_len (t : Tp) : (sevL t).length = 7 := by unfold sevL; split <;> rfl
theorem sevL_le (t : Tp) : ∀ x ∈ sevL t, -256 ≤ x ∧ x ≤ 256 := fun x hx => by
  unfold sevL at hx
  split at hx
  · rename_i h
    unfold TapsP at h
    simp at hx
    omega
  · simp at hx; omega
theorem wwithin_ok (lo : Nat) (v a b : Int) (M : Mem) : Ac P T lo F.wiener_within [.int .i64 v, .int .i64 a, .int .i64 b] M fun r => r = (.bool (decide (a ≤ v ∧ v ≤ b)), M) := by
  refine Ac.of (Evp.of_eq (fun k => wiener_within.entry k ..) ?_)
  refine Evp.dec (fun h => Evp.ret (Run.ret ?_)) fun h => Evp.ret (Run.ret (by rw [decide_eq_false (fun e => h e.1)]))
  congr 2
  exact decide_eq_decide.2 ⟨fun e => ⟨h, e⟩, fun e => e.2⟩
theorem wclip_ok (lo : Nat) (v a b : Int) (M : Mem) (h : a ≤ b) : Ac P T lo F.wiener_clip [.int .i64 v, .int .i64 a, .int .i64 b] M fun r => r = (.int .i64 (clipS v a b), M) := by
  refine Ac.of (Evp.of_eq (fun k => wiener_clip.entry k ..) ?_)
  refine Evp.ret (Run.ret ?_)
  have : minI (maxI v a) b = clipS v a b := by
    unfold minI maxI clipS
    repeat' split
    all_goals omega
  rw [this]
section
variable (lo : Nat) (t : Tp) (M : Mem)
theorem tapsMay_ok : Ac P T lo F.wiener_tapsMay [.agg ⟨[.int .i64 t.a, .int .i64 t.b, .int .i64 t.c]⟩] M fun r => r = (.bool (decide (TapsP t)), M) := by
  refine Ac.of (Evp.of_eq (fun k => wiener_tapsMay.entry k ..) ?_)
  refine Evp.ob (wwithin_ok ..) ?_
  rintro _ rfl
  simp only [ret_int, ret_bool, ret_flt, ret_slc, ret_str, ret_ptr, ret_agg, ret_tup, ob_some, bb_true, bb_false, List.getElem?_cons_zero, List.getElem?_cons_succ, List.length_cons, List.length_nil, Nat.reduceAdd, Nat.reduceLT]
  refine Evp.dec (fun h1 => ?_) fun h1 => Evp.ret (Run.ret (by rw [decide_eq_false (fun e => h1 e.1)]))
  refine Evp.ob (wwithin_ok ..) ?_
  rintro _ rfl
  simp only [ret_int, ret_bool, ret_flt, ret_slc, ret_str, ret_ptr, ret_agg, ret_tup, ob_some, bb_true, bb_false, List.getElem?_cons_zero, List.getElem?_cons_succ, List.length_cons, List.length_nil, Nat.reduceAdd, Nat.reduceLT]
  refine Evp.dec (fun h2 => ?_) fun h2 => Evp.ret (Run.ret (by rw [decide_eq_false (fun e => h2 e.2.1)]))
  refine Evp.ob (wwithin_ok ..) ?_
  rintro _ rfl
  simp only [ret_int, ret_bool, ret_flt, ret_slc, ret_str, ret_ptr, ret_agg, ret_tup, ob_some, bb_true, bb_false, List.getElem?_cons_zero, List.getElem?_cons_succ, List.length_cons, List.length_nil, Nat.reduceAdd, Nat.reduceLT]
  refine Evp.ret (Run.ret ?_)
  congr 2
  exact decide_eq_decide.2 ⟨fun e => ⟨h1, h2, e⟩, fun e => e.2.2⟩
theorem rtaps_ok : Ac P T lo F.zoetroperef24_taps [.agg ⟨[.int .i64 t.a, .int .i64 t.b, .int .i64 t.c]⟩] M fun r => r = (.bool (decide (TapsP t)), M) := by
  have no : ¬ TapsP t → Run P T lo F.zoetroperef24_taps (.ret (.bool false) M) fun r => r = (.bool (decide (TapsP t)), M) := fun h => Run.ret (by rw [decide_eq_false h])
  refine Ac.of (Evp.of_eq (fun k => zoetroperef24_taps.entry k ..) ?_)
  refine Evp.dec (fun h1 => ?_) fun h1 => Evp.ret (no fun e => h1 e.1.1)
  refine Evp.dec (fun h2 => ?_) fun h2 => Evp.ret (no fun e => h2 e.1.2)
  refine Evp.dec (fun h3 => ?_) fun h3 => Evp.ret (no fun e => h3 e.2.1.1)
  refine Evp.dec (fun h4 => ?_) fun h4 => Evp.ret (no fun e => h4 e.2.1.2)
  refine Evp.dec (fun h5 => ?_) fun h5 => Evp.ret (no fun e => h5 e.2.2.1)
  refine Evp.ret (Run.ret ?_)
  congr 2
  exact decide_eq_decide.2 ⟨fun e => ⟨⟨h1, h2⟩, ⟨h3, h4⟩, h5, e⟩, fun e => e.2.2.2⟩
/-- What Seven hands back. -/
def SevR (r : Value × Mem) : Prop := ∃ a b c d e f g : Int, r = (.tuple ⟨[.agg ⟨[.int .i64 a, .int .i64 b, .int .i64 c, .int .i64 d, .int .i64 e, .int .i64 f, .int .i64 g]⟩, .int .i64 (if TapsP t then 0 else 2)]⟩, M) ∧ sevL t = [a, b, c, d, e, f, g]
theorem seven_ok : Ac P T lo F.wiener_Seven [.agg ⟨[.int .i64 t.a, .int .i64 t.b, .int .i64 t.c]⟩] M (SevR t M) := by
  refine Ac.of (Evp.of_eq (fun k => wiener_Seven.entry k ..) ?_)
  refine Evp.ob (tapsMay_ok ..) ?_
  rintro _ rfl
  simp only [ret_int, ret_bool, ret_flt, ret_slc, ret_str, ret_ptr, ret_agg, ret_tup, ob_some, bb_true, bb_false, List.getElem?_cons_zero, List.getElem?_cons_succ, List.length_cons, List.length_nil, Nat.reduceAdd, Nat.reduceLT]
  by_cases h : TapsP t
  · rw [decide_eq_true h]
    refine Evp.ff rfl (Evp.ret ?_)
    have h' := h
    unfold TapsP at h'
    have e2 : ∀ z : Int, (z = t.a ∨ z = t.b ∨ z = t.c) → IntKind.i64.wrap (2 * z) = 2 * z := fun z hz => w64 (by omega)
    refine Run.cut (Evp.of_eq (fun k => wiener_Seven.p244 k ..) ?_)
    refine Evp.tt rfl (Evp.pos (by decide) (Evp.some rfl ?_))
    rw [e2 t.a (.inl rfl), w64 (x := 128 - 2 * t.a) (by omega), show IntKind.i64.wrap (0 + 1) = 1 from by decide]
    refine Evp.ret ?_
    refine Run.cut (Evp.of_eq (fun k => wiener_Seven.p244 k ..) ?_)
    refine Evp.tt rfl (Evp.pos (by decide) (Evp.some rfl ?_))
    rw [e2 t.b (.inr (.inl rfl)), w64 (x := 128 - 2 * t.a - 2 * t.b) (by omega), show IntKind.i64.wrap (1 + 1) = 2 from by decide]
    refine Evp.ret ?_
    refine Run.cut (Evp.of_eq (fun k => wiener_Seven.p244 k ..) ?_)
    refine Evp.tt rfl (Evp.pos (by decide) (Evp.some rfl ?_))
    rw [e2 t.c (.inr (.inr rfl)), w64 (x := 128 - 2 * t.a - 2 * t.b - 2 * t.c) (by omega), show IntKind.i64.wrap (2 + 1) = 3 from by decide]
    refine Evp.ret ?_
    refine Run.cut (Evp.of_eq (fun k => wiener_Seven.p244 k ..) ?_)
    refine Evp.ff rfl (Evp.ret (Run.ret ⟨_, _, _, _, _, _, _, by rw [if_pos h], ?_⟩))
    unfold sevL
    rw [if_pos h, show 128 - 2 * t.a - 2 * t.b - 2 * t.c = 128 - 2 * (t.a + t.b + t.c) by omega]
  · rw [decide_eq_false h]
    refine Evp.tt rfl (Evp.ret (Run.ret ⟨_, _, _, _, _, _, _, by rw [if_neg h], ?_⟩))
    unfold sevL
    rw [if_neg h]
theorem rseven_ok : Ac P T lo F.zoetroperef24_Seven [.agg ⟨[.int .i64 t.a, .int .i64 t.b, .int .i64 t.c]⟩] M (SevR t M) := by
  refine Ac.of (Evp.of_eq (fun k => zoetroperef24_Seven.entry k ..) ?_)
  refine Evp.ob (rtaps_ok ..) ?_
  rintro _ rfl
  simp only [ret_int, ret_bool, ret_flt, ret_slc, ret_str, ret_ptr, ret_agg, ret_tup, ob_some, bb_true, bb_false, List.getElem?_cons_zero, List.getElem?_cons_succ, List.length_cons, List.length_nil, Nat.reduceAdd, Nat.reduceLT]
  by_cases h : TapsP t
  · rw [decide_eq_true h]
    have h' := h
    unfold TapsP at h'
    rw [w64 (x := t.a + t.b) (by omega), w64 (x := t.a + t.b + t.c) (by omega), w64 (x := 2 * (t.a + t.b + t.c)) (by omega), w64 (x := 128 - 2 * (t.a + t.b + t.c)) (by omega)]
    refine Evp.ff rfl (Evp.ret (Run.ret ⟨_, _, _, _, _, _, _, by rw [if_pos h], ?_⟩))
    unfold sevL
    rw [if_pos h]
  · rw [decide_eq_false h]
    refine Evp.tt rfl (Evp.ret (Run.ret ⟨_, _, _, _, _, _, _, by rw [if_neg h], ?_⟩))
    unfold sevL
    rw [if_neg h]
end
/-! ### Units -/
structure Un where
  on : Bool
  v : Tp
  h : Tp
def Un.wf (u : Un) : Prop := wfI u.v.a ∧ wfI u.v.b ∧ wfI u.v.c ∧ wfI u.h.a ∧ wfI u.h.b ∧ wfI u.h.c
def Un.cells (u : Un) : List Value := [.bool u.on, .int .i64 u.v.a, .int .i64 u.v.b, .int .i64 u.v.c, .int .i64 u.h.a, .int .i64 u.h.b, .int .i64 u.h.c]
def u0 : Un := ⟨false, ⟨0, 0, 0⟩, ⟨0, 0, 0⟩⟩
def UnitP (u : Un) : Prop := (u.on = true ∧ TapsP u.v ∧ TapsP u.h) ∨ u = u0
noncomputable instance (u : Un) : Decidable (UnitP u) := Classical.propDecidable _
noncomputable def checkU (u : Un) : Int := if UnitP u then 0 else 2
theorem key_u {u : Un} (w : u.wf) : P.keyLits 9 25 u.cells = some [.bool u.on, .int .i64 u.v.a, .int .i64 u.v.b, .int .i64 u.v.c, .int .i64 u.h.a, .int .i64 u.h.b, .int .i64 u.h.c] := key_unit w.1 w.2.1 w.2.2.1 w.2.2.2.1 w.2.2.2.2.1 w.2.2.2.2.2
theorem key_u0 : P.keyLits 9 25 [.bool false, .int .i64 0, .int .i64 0, .int .i64 0, .int .i64 0, .int .i64 0, .int .i64 0] = some [.bool false, .int .i64 0, .int .i64 0, .int .i64 0, .int .i64 0, .int .i64 0, .int .i64 0] := key_unit (by decide) (by decide) (by decide) (by decide) (by decide) (by decide)
theorem same_u0 (u : Un) : sameLits [.bool u.on, .int .i64 u.v.a, .int .i64 u.v.b, .int .i64 u.v.c, .int .i64 u.h.a, .int .i64 u.h.b, .int .i64 u.h.c] [.bool false, .int .i64 0, .int .i64 0, .int .i64 0, .int .i64 0, .int .i64 0, .int .i64 0] = true ↔ u = u0 := by
  rw [sameLits_eq]
  obtain ⟨on, ⟨a, b, c⟩, ⟨d, e, f⟩⟩ := u
  simp [u0, and_assoc]
section
variable (lo : Nat) (u : Un) (M : Mem) (w : u.wf)
include w
theorem keys_end {f : FuncId} (hno : ¬ (u.on = true ∧ TapsP u.v ∧ TapsP u.h)) : Evp (fun k => ob (Program.keyLits P 9 25 [.bool u.on, .int .i64 u.v.a, .int .i64 u.v.b, .int .i64 u.v.c, .int .i64 u.h.a, .int .i64 u.h.b, .int .i64 u.h.c]) fun q17 => ob (Program.keyLits P 9 25 [.bool false, .int .i64 0, .int .i64 0, .int .i64 0, .int .i64 0, .int .i64 0, .int .i64 0]) fun q18 =>
    bb (sameLits q17 q18) (some (.ret (.int .i64 0) M)) (some (.ret (.int .i64 2) M))) fun out => Run P T lo f out fun r => r = (.int .i64 (checkU u), M) := by
  refine Evp.some (key_u w) (Evp.some key_u0 ?_)
  refine Evp.bb (fun h => Evp.ret (Run.ret ?_)) fun h => Evp.ret (Run.ret ?_)
  · unfold checkU; rw [if_pos (.inr ((same_u0 u).1 h))]
  · unfold checkU
    rw [if_neg]
    rintro (e | e)
    · exact hno e
    · rw [(same_u0 u).2 e] at h; cases h
theorem wcheck_ok : Ac P T lo F.wiener_Check [.agg ⟨u.cells⟩] M fun r => r = (.int .i64 (checkU u), M) := by
  have yes : (u.on = true ∧ TapsP u.v ∧ TapsP u.h) → checkU u = 0 := fun h => by unfold checkU; rw [if_pos (.inl h)]
  refine Ac.of (Evp.of_eq (fun k => wiener_Check.entry k ..) ?_)
  refine Evp.bb (fun h1 => ?_) fun h1 => keys_end lo u M w fun e => by rw [e.1] at h1; cases h1
  refine Evp.ob (tapsMay_ok lo u.v M) ?_
  rintro _ rfl
  simp only [ret_int, ret_bool, ret_flt, ret_slc, ret_str, ret_ptr, ret_agg, ret_tup, ob_some, bb_true, bb_false, List.getElem?_cons_zero, List.getElem?_cons_succ, List.length_cons, List.length_nil, Nat.reduceAdd, Nat.reduceLT]
  refine Evp.dec (fun h2 => ?_) fun h2 => keys_end lo u M w fun e => h2 e.2.1
  refine Evp.ob (tapsMay_ok lo u.h M) ?_
  rintro _ rfl
  simp only [ret_int, ret_bool, ret_flt, ret_slc, ret_str, ret_ptr, ret_agg, ret_tup, ob_some, bb_true, bb_false, List.getElem?_cons_zero, List.getElem?_cons_succ, List.length_cons, List.length_nil, Nat.reduceAdd, Nat.reduceLT]
  refine Evp.dec (fun h3 => ?_) fun h3 => keys_end lo u M w fun e => h3 e.2.2
  exact Evp.ret (Run.ret (by rw [yes ⟨h1, h2, h3⟩]))
theorem rcheckU_ok : Ac P T lo F.zoetroperef24_Check [.agg ⟨u.cells⟩] M fun r => r = (.int .i64 (checkU u), M) := by
  have yes : (u.on = true ∧ TapsP u.v ∧ TapsP u.h) → checkU u = 0 := fun h => by unfold checkU; rw [if_pos (.inl h)]
  refine Ac.of (Evp.of_eq (fun k => zoetroperef24_Check.entry k ..) ?_)
  refine Evp.bb (fun h1 => ?_) fun h1 => keys_end lo u M w fun e => by rw [e.1] at h1; cases h1
  refine Evp.ob (rtaps_ok lo u.v M) ?_
  rintro _ rfl
  simp only [ret_int, ret_bool, ret_flt, ret_slc, ret_str, ret_ptr, ret_agg, ret_tup, ob_some, bb_true, bb_false, List.getElem?_cons_zero, List.getElem?_cons_succ, List.length_cons, List.length_nil, Nat.reduceAdd, Nat.reduceLT]
  refine Evp.dec (fun h2 => ?_) fun h2 => keys_end lo u M w fun e => h2 e.2.1
  refine Evp.ob (rtaps_ok lo u.h M) ?_
  rintro _ rfl
  simp only [ret_int, ret_bool, ret_flt, ret_slc, ret_str, ret_ptr, ret_agg, ret_tup, ob_some, bb_true, bb_false, List.getElem?_cons_zero, List.getElem?_cons_succ, List.length_cons, List.length_nil, Nat.reduceAdd, Nat.reduceLT]
  refine Evp.dec (fun h3 => ?_) fun h3 => keys_end lo u M w fun e => h3 e.2.2
  exact Evp.ret (Run.ret (by rw [yes ⟨h1, h2, h3⟩]))
end
/-! ### Lists of units -/
def cellsU (us : List Un) : List Value := us.flatMap Un.cells
theorem cellsU_len (us : List Un) : (cellsU us).length = us.length * 7 := by
  unfold cellsU
  induction us with
  | nil => rfl
  | cons u r ih => rw [List.flatMap_cons, List.length_append, ih]; simp [Un.cells]; omega
theorem cellsU_get {us : List Un} {k j : Nat} (hk : k < us.length) (hj : j < 7) : (cellsU us)[k * 7 + j]? = (us.getD k u0).cells[j]? := by
  unfold cellsU
  induction us generalizing k with
  | nil => simp at hk
  | cons u r ih =>
    rw [List.flatMap_cons]
    cases k with
    | zero =>
      rw [Nat.zero_mul, Nat.zero_add, List.getElem?_append_left (by simp [Un.cells]; omega)]
      rfl
    | succ k =>
      rw [List.getElem?_append_right (by simp [Un.cells]; omega), show (k + 1) * 7 + j - u.cells.length = k * 7 + j by simp [Un.cells]; omega, ih (by simpa using hk)]
      rfl
def RdU (M : Mem) (A : Option Addr) (us : List Un) : Prop := Rd M A us.length 7 (cellsU us)
theorem RdU.pre {M M' : Mem} {A : Option Addr} {us : List Un} (h : RdU M A us) (hp : Pre M M') : RdU M' A us := Rd.pre h hp
theorem unit_ld {M : Mem} {A : Option Addr} {us : List Un} (h : RdU M A us) {k : Nat} (hk : k < us.length) : ∃ a, A = some a ∧ M.ld (plus a (k * 7)) = some (.bool (us.getD k u0).on) ∧ M.ld (plus (plus a (k * 7)) 1) = some (.int .i64 (us.getD k u0).v.a) ∧ M.ld (plus (plus a (k * 7)) 2) = some (.int .i64 (us.getD k u0).v.b) ∧
    M.ld (plus (plus a (k * 7)) 3) = some (.int .i64 (us.getD k u0).v.c) ∧ M.ld (plus (plus a (k * 7)) 4) = some (.int .i64 (us.getD k u0).h.a) ∧ M.ld (plus (plus a (k * 7)) 5) = some (.int .i64 (us.getD k u0).h.b) ∧ M.ld (plus (plus a (k * 7)) 6) = some (.int .i64 (us.getD k u0).h.c) := by
  obtain ⟨a, rfl, _, h0⟩ := Rd.get h (i := k * 7 + 0) (by omega)
  have g : ∀ j, j < 7 → M.ld (plus a (k * 7 + j)) = (us.getD k u0).cells[j]? := fun j hj => by
    obtain ⟨a', e, _, h1⟩ := Rd.get h (i := k * 7 + j) (by omega)
    injection e with e; subst e
    rw [h1, cellsU_get hk hj]
  simp only [plus_plus]
  exact ⟨a, rfl, by have := g 0 (by omega); rwa [Nat.add_zero] at this, g 1 (by omega), g 2 (by omega), g 3 (by omega), g 4 (by omega), g 5 (by omega), g 6 (by omega)⟩
theorem Evp.ldU {α : Type} {Q : α → Prop} {M : Mem} {A : Option Addr} {us : List Un} {k : Nat} {f : Nat → Addr → Bool → Int → Int → Int → Int → Int → Int → Option α} (h : RdU M A us) (hk : k < us.length)
    (hf : ∀ a, A = .some a → Evp (fun kk => f kk a (us.getD k u0).on (us.getD k u0).v.a (us.getD k u0).v.b (us.getD k u0).v.c (us.getD k u0).h.a (us.getD k u0).h.b (us.getD k u0).h.c) Q) :
    Evp (fun kk => Zt.ob A fun a => Zt.ob ((M.ld (plus a (k * 7))).bind Value.bool?) fun b => Zt.ob ((M.ld (plus (plus a (k * 7)) 1)).bind (Value.int? .i64)) fun x1 => Zt.ob ((M.ld (plus (plus a (k * 7)) 2)).bind (Value.int? .i64)) fun x2 => Zt.ob ((M.ld (plus (plus a (k * 7)) 3)).bind (Value.int? .i64)) fun x3 =>
      Zt.ob ((M.ld (plus (plus a (k * 7)) 4)).bind (Value.int? .i64)) fun x4 => Zt.ob ((M.ld (plus (plus a (k * 7)) 5)).bind (Value.int? .i64)) fun x5 => Zt.ob ((M.ld (plus (plus a (k * 7)) 6)).bind (Value.int? .i64)) fun x6 => f kk a b x1 x2 x3 x4 x5 x6) Q := by
  obtain ⟨a, rfl, h0, h1, h2, h3, h4, h5, h6⟩ := unit_ld h hk
  refine Evp.of_eq (fun kk => ?_) (hf a rfl)
  rw [ob_some, h0, h1, h2, h3, h4, h5, h6, ret_bool, ret_int, ret_int, ret_int, ret_int, ret_int, ret_int]
end Go.Zt
