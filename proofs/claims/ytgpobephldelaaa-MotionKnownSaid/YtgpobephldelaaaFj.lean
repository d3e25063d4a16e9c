/- Weights, pairs; what is told of two answers. -/
import Derived.Test.YtgpobephldelaaaFi
set_option linter.unusedVariables false
set_option linter.unusedSimpArgs false
set_option maxRecDepth 100000
namespace Go.Zt
theorem clone_ok (lo : Nat) (A : Option Addr) (c : Nat) (xs : List Int) (M : Mem) (hr : RdI M .u8 A xs) (h0 : xs.length ≠ 0) (hn : xs.length ≤ 140737488351232) (hlo : lo ≤ M.length) :
    Ac P T lo F.slices_Clone__uint8_uint8 [.slice A xs.length c] M fun r => ∃ a cc M', r = (.slice (some a) xs.length cc, M') ∧ Pre M M' ∧ xs.length ≤ cc ∧ Buf M M' a (xs.map (Value.int .u8)) := by
  obtain ⟨a0, hA, _⟩ := hr.ld (i := 0) (by omega)
  refine Ac.of (Evp.of_eq (fun k => slices_Clone__uint8_uint8.entry k ..) ?_)
  refine Evp.ff (by rw [hA]; rfl) ?_
  refine Evp.some ((hr.pre (Pre.app _ _)).src) ?_
  have e : (M ++ [⟨.fx, []⟩] : Mem).app lo 1 1 ⟨some ⟨M.length, 0, none⟩, 0, 0⟩ (xs.map (Value.int .u8)) xs.length = some (⟨some ⟨(M ++ [⟨.fx, []⟩] : Mem).length, 0, some (xs.map (Value.int .u8)).length⟩, xs.length, xs.length⟩, (M ++ [⟨.fx, []⟩] : Mem) ++ [⟨.op 1, xs.map (Value.int .u8)⟩]) := by
    unfold Mem.app
    have hroom : room (0 + xs.length) 1 := by show (0 + xs.length) * 1 ≤ 140737488355328; omega
    simp only [h0, if_false]
    rw [if_pos hroom]
    simp
  refine Evp.some e ?_
  refine Evp.ret (Run.ret ⟨_, _, _, rfl, (Pre.app M _).trans (Pre.app _ _), Nat.le_refl _, ?_⟩)
  exact ⟨.op 1, rfl, by simp, by simp, .inr ⟨1, rfl, rfl⟩⟩
/-- A list of its own, or nothing. -/
def OwnM (M0 M : Mem) (A : Option Addr) (xs : List Int) : Prop := xs = [] ∨ ∃ a, A = some a ∧ Buf M0 M a (xs.map (Value.int .u8))
theorem OwnM.rd {M0 M : Mem} {A : Option Addr} {xs : List Int} (h : OwnM M0 M A xs) : RdI M .u8 A xs := by
  rcases h with rfl | ⟨a, rfl, hb⟩
  · exact RdI.nil
  · exact hb.rdI
theorem OwnM.pre {M0 M M' : Mem} {A : Option Addr} {xs : List Int} (h : OwnM M0 M A xs) (hp : Pre M M') : OwnM M0 M' A xs := by
  rcases h with rfl | ⟨a, rfl, hb⟩
  · exact .inl rfl
  · exact .inr ⟨a, rfl, hb.pre hp⟩
theorem OwnM.floor {M0 M1 M : Mem} {A : Option Addr} {xs : List Int} (h : OwnM M1 M A xs) (hl : M0.length ≤ M1.length) : OwnM M0 M A xs := by
  rcases h with rfl | ⟨a, rfl, hb⟩
  · exact .inl rfl
  · exact .inr ⟨a, rfl, hb.floor hl⟩
theorem Grow.own {M0 M : Mem} {A : Option Addr} {xs : List Int} (h : Grow M0 M 1 A xs.length (xs.map (Value.int .u8))) : OwnM M0 M A xs := by
  by_cases h0 : xs = []
  · exact .inl h0
  · obtain ⟨a, h1, h2⟩ := h.buf (fun e => h0 (List.eq_nil_of_length_eq_zero e))
    exact .inr ⟨a, h1, h2⟩
theorem cloneAny_ok (lo : Nat) (A : Option Addr) (c : Nat) (xs : List Int) (M : Mem) (hr : RdI M .u8 A xs) (hn : xs.length ≤ 140737488351232) (hlo : lo ≤ M.length) :
    Ac P T lo F.slices_Clone__uint8_uint8 [.slice A xs.length c] M fun r => ∃ A' cc M', r = (.slice A' xs.length cc, M') ∧ Pre M M' ∧ xs.length ≤ cc ∧ OwnM M M' A' xs := by
  by_cases h0 : xs.length = 0
  · refine Ac.of (Evp.of_eq (fun k => slices_Clone__uint8_uint8.entry k ..) ?_)
    have hx : xs = [] := List.eq_nil_of_length_eq_zero h0
    subst hx
    refine Evp.bb (fun h => Evp.ret (Run.ret ⟨none, 0, M, rfl, Pre.refl _, Nat.le_refl _, .inl rfl⟩)) fun h => ?_
    have e1 : Mem.src (M ++ [⟨.fx, []⟩] : Mem) A ([] : List Int).length ([] : List Int).length = some [] := (RdI.nil (M := (M ++ [⟨.fx, []⟩] : Mem)) (k := .u8) (A := A)).src
    refine Evp.some e1 ?_
    have e2 : (M ++ [⟨.fx, []⟩] : Mem).app lo 1 1 ⟨some ⟨M.length, 0, none⟩, 0, 0⟩ [] 0 = some (⟨some ⟨M.length, 0, none⟩, 0, 0⟩, (M ++ [⟨.fx, []⟩] : Mem)) := by
      unfold Mem.app; rw [if_pos rfl]
    refine Evp.some e2 ?_
    exact Evp.ret (Run.ret ⟨_, _, _, rfl, Pre.app _ _, Nat.le_refl _, .inl rfl⟩)
  · refine Ac.mono (clone_ok lo A c xs M hr h0 hn hlo) ?_
    rintro _ ⟨a, cc, M', rfl, p, hc, hb⟩
    exact ⟨some a, cc, M', rfl, p, hc, .inr ⟨a, rfl, hb⟩⟩
theorem eqInts_loop (lo : Nat) (A A' : Option Addr) (c c' : Nat) (xs ys : List Int) (M : Mem) (hx : RdI M .i64 A xs) (hy : RdI M .i64 A' ys) (hl : xs.length = ys.length) (hn : xs.length ≤ 140737488351232) :
    ∀ (d i : Nat), xs.length - i = d → i ≤ xs.length → (∀ j, j < i → xs.getD j 0 = ys.getD j 0) → Run P T lo F.zoetroperef00_EqInts (zoetroperef00_EqInts.c116 A xs.length c A' ys.length c' i M) fun r => r = (.bool (decide (xs = ys)), M) := by
  intro d
  induction d with
  | zero =>
    intro i hd hi hj
    refine Run.cut (Evp.of_eq (fun k => zoetroperef00_EqInts.p116 k ..) ?_)
    refine Evp.dec (fun h => absurd h (by omega)) fun _ => Evp.ret (Run.ret ?_)
    rw [decide_eq_true (eq_of_getD hl fun j h => hj j (by omega))]
  | succ d ih =>
    intro i hd hi hj
    refine Run.cut (Evp.of_eq (fun k => zoetroperef00_EqInts.p116 k ..) ?_)
    refine Evp.dec (fun _ => ?_) fun h => absurd h (by omega)
    refine Evp.pos (by omega) ?_
    simp only [Int.toNat_natCast]
    refine Evp.ldI hx (by omega) fun a _ => ?_
    refine Evp.pos (by omega) ?_
    refine Evp.ldI hy (by omega) fun a' _ => ?_
    refine Evp.neb (fun hne => Evp.ret (Run.ret ?_)) fun he => ?_
    · rw [decide_eq_false (fun e => hne (by rw [e]))]
    · rw [w64 (by omega)]
      exact Evp.ret (ih (i + 1) (by omega) (by omega) fun j h => by
        by_cases hji : j = i
        · subst hji; exact he
        · exact hj j (by omega))
theorem eqInts_ok (lo : Nat) (A A' : Option Addr) (c c' : Nat) (xs ys : List Int) (M : Mem) (hx : RdI M .i64 A xs) (hy : RdI M .i64 A' ys) (hn : xs.length ≤ 140737488351232) :
    Ac P T lo F.zoetroperef00_EqInts [.slice A xs.length c, .slice A' ys.length c'] M fun r => r = (.bool (decide (xs = ys)), M) := by
  refine Ac.of (Evp.of_eq (fun k => zoetroperef00_EqInts.entry k ..) ?_)
  refine Evp.neb (fun h => Evp.ret (Run.ret ?_)) fun h => ?_
  · rw [decide_eq_false (fun e => h (by rw [e]))]
  · exact Evp.ret (eqInts_loop lo A A' c c' xs ys M hx hy (by omega) hn _ 0 rfl (by omega) fun j h => by omega)

theorem shru {x : Int} (n : Nat) (hn : n ≤ 64) : shrI .u64 x n = x / 2 ^ n := by
  unfold shrI
  rw [show IntKind.u64.bits = 64 from rfl, Nat.min_eq_left hn]
  exact Int.fdiv_eq_ediv_of_nonneg _ (Int.pow_nonneg (by decide))
theorem pos_i {i : Nat} {n : Nat} (h : i < n) : (0 : Int) ≤ (i : Int) ∧ (i : Int) < (n : Int) := ⟨by omega, by omega⟩

/-! ### Weights -/
def wS (n i : Nat) : Int := 32 + (2 * (i : Int) + 1) * 16 / (n : Int)
def wL (n : Nat) : List Int := (List.range n).map (wS n)
theorem wS_le {n i : Nat} (h : i < n) : 32 ≤ wS n i ∧ wS n i ≤ 63 := by
  have h1 : 0 ≤ (2 * (i : Int) + 1) * 16 / (n : Int) := Int.ediv_nonneg (by omega) (by omega)
  have h2 : (2 * (i : Int) + 1) * 16 / (n : Int) < 32 := Int.ediv_lt_of_lt_mul (by omega) (by omega)
  unfold wS; omega
theorem wL_len (n : Nat) : (wL n).length = n := by simp [wL]
theorem wL_get {n i : Nat} (h : i < n) : (wL n).getD i 0 = wS n i := getD_map_range h
theorem mwithin_ok (lo : Nat) (v a b : Int) (M : Mem) : Ac P T lo F.motion_within [.int .i64 v, .int .i64 a, .int .i64 b] M fun r => r = (.bool (decide (a ≤ v ∧ v ≤ b)), M) := by
  refine Ac.of (Evp.of_eq (fun k => motion_within.entry k ..) ?_)
  refine Evp.dec (fun h => Evp.ret (Run.ret ?_)) fun h => Evp.ret (Run.ret (by rw [decide_eq_false (fun e => h e.1)]))
  congr 2
  exact decide_eq_decide.2 ⟨fun e => ⟨h, e⟩, fun e => e.2⟩
def WeightsR (M : Mem) (n : Int) (r : Value × Mem) : Prop :=
  Pre M r.2 ∧ if 4 ≤ n ∧ n ≤ 32 then ∃ a cc, r.1 = .tuple ⟨[.slice (some a) n.toNat cc, .int .i64 0]⟩ ∧ n.toNat ≤ cc ∧ Buf M r.2 a ((wL n.toNat).map (Value.int .i64)) else r.1 = .tuple ⟨[.slice none 0 0, .int .i64 2]⟩
theorem w_term {n i : Nat} (h : i < n) (hn : n ≤ 32) : IntKind.i64.wrap (32 + (IntKind.i64.wrap (Int.tdiv (IntKind.i64.wrap ((IntKind.i64.wrap ((IntKind.i64.wrap (2 * (i : Int))) + 1)) * 16)) (n : Int)))) = wS n i := by
  have hw := wS_le h
  unfold wS at *
  rw [w64 (x := 2 * (i : Int)) (by omega), w64 (x := 2 * (i : Int) + 1) (by omega), w64 (x := (2 * (i : Int) + 1) * 16) (by omega), Int.tdiv_eq_ediv_of_nonneg (by omega), w64 (x := (2 * (i : Int) + 1) * 16 / (n : Int)) (by omega), w64 (by omega)]
theorem weights_loop (lo : Nat) (n : Nat) (M0 : Mem) (a : Addr) (c : Nat) (hn : 4 ≤ n ∧ n ≤ 32) (hlo : lo ≤ M0.length) (hc : n ≤ c) : ∀ (d i : Nat) (zs : List Int) (M : Mem), n - i = d → i ≤ n → zs.length = n → (∀ j, j < i → zs.getD j 0 = wS n j) → Pre M0 M → Buf M0 M a (zs.map (Value.int .i64)) →
    Run P T lo F.motion_Weights (motion_Weights.c244 (n : Int) (some a) n c (n : Int) i M) (WeightsR M0 (n : Int)) := by
  intro d
  induction d with
  | zero =>
    intro i zs M hd hi hl hz hp hb
    refine Run.cut (Evp.of_eq (fun k => motion_Weights.p244 k ..) ?_)
    refine Evp.dec (fun h => absurd h (by omega)) fun _ => ?_
    refine Evp.ret (Run.ret ⟨hp, ?_⟩)
    rw [if_pos (by omega)]
    refine ⟨a, c, rfl, hc, ?_⟩
    have e : zs = wL n := ext_getD (by rw [hl, wL_len]) fun j hj => by rw [hz j (by omega), wL_get (by omega)]
    rw [Int.toNat_natCast, ← e]; exact hb
  | succ d ih =>
    intro i zs M hd hi hl hz hp hb
    refine Run.cut (Evp.of_eq (fun k => motion_Weights.p244 k ..) ?_)
    refine Evp.dec (fun _ => ?_) fun h => absurd h (by omega)
    refine Evp.neg (by omega) (Evp.pos (by omega) (Evp.some rfl ?_))
    simp only [Int.toNat_natCast]
    rw [w_term (by omega) hn.2]
    obtain ⟨M', h1, h2, h3, h4, h5⟩ := hb.st (lo := lo) (i := i) (vs := [.int .i64 (wS n i)]) hp hlo (by simp; omega)
    refine Evp.some h1 ?_
    rw [setL_one, set_map] at h2
    rw [w64 (by omega)]
    exact Evp.ret (ih (i + 1) _ M' (by omega) (by omega) (by simpa using hl) (fun j hj => by
      rw [getD_set (by omega)]
      split
      · rename_i e; rw [e]
      · exact hz j (by omega)) h3 h2)
theorem weights_ok (lo : Nat) (n : Int) (M : Mem) (hlo : lo ≤ M.length) : Ac P T lo F.motion_Weights [.int .i64 n] M (WeightsR M n) := by
  refine Ac.of (Evp.of_eq (fun k => motion_Weights.entry k ..) ?_)
  refine Evp.ob (mwithin_ok ..) ?_
  rintro _ rfl
  simp only [ret_int, ret_bool, ret_flt, ret_slc, ret_str, ret_ptr, ret_agg, ret_tup, ob_some, bb_true, bb_false, List.getElem?_cons_zero, List.getElem?_cons_succ, List.length_cons, List.length_nil, Nat.reduceAdd, Nat.reduceLT]
  refine Evp.nb (fun h => Evp.ret (Run.ret ⟨Pre.refl _, by rw [if_neg (of_decide_eq_false h)]⟩)) fun h => ?_
  have h := of_decide_eq_true h
  obtain ⟨m, rfl⟩ := Int.eq_ofNat_of_zero_le (a := n) (by omega)
  refine Evp.pos ⟨by omega, by show _ * 8 ≤ _; omega⟩ ?_
  simp only [Int.toNat_natCast]
  have p1 := Pre.app M [⟨.fx, zerosL [.int .i64 0] m⟩]
  refine Evp.ret ?_
  refine Run.mono (weights_loop lo m M ⟨M.length, 0, none⟩ m (by omega) hlo (Nat.le_refl _) _ 0 (List.replicate m 0) _ rfl (by omega) (by simp) (fun j hj => absurd hj (by omega)) p1 ?_) fun r hr => hr
  rw [zerosL_one, List.map_replicate]
  exact Buf.push (Pre.refl _)
theorem rweights_loop (lo : Nat) (n : Nat) (M0 : Mem) (hn : 4 ≤ n ∧ n ≤ 32) (hlo : lo ≤ M0.length) : ∀ (d i : Nat) (A : Option Addr) (c : Nat) (M : Mem), n - i = d → i ≤ n → Pre M0 M → i ≤ c → Grow M0 M 1 A i (((wL n).take i).map (Value.int .i64)) →
    Run P T lo F.zoetroperef15_Weights (zoetroperef15_Weights.c244 (n : Int) A i c i M) (WeightsR M0 (n : Int)) := by
  intro d
  induction d with
  | zero =>
    intro i A c M hd hi hp hc hg
    obtain rfl : i = n := by omega
    refine Run.cut (Evp.of_eq (fun k => zoetroperef15_Weights.p244 k ..) ?_)
    refine Evp.dec (fun h => absurd h (by omega)) fun _ => ?_
    refine Evp.ret (Run.ret ⟨hp, ?_⟩)
    rw [if_pos (by omega)]
    rw [List.take_of_length_le (by rw [wL_len]; exact Nat.le_refl _)] at hg
    obtain ⟨a, rfl, hb⟩ := hg.buf (by omega)
    exact ⟨a, c, rfl, hc, hb⟩
  | succ d ih =>
    intro i A c M hd hi hp hc hg
    refine Run.cut (Evp.of_eq (fun k => zoetroperef15_Weights.p244 k ..) ?_)
    refine Evp.dec (fun _ => ?_) fun h => absurd h (by omega)
    refine Evp.neg (by rw [w64 (by omega)]; omega) ?_
    have e : IntKind.i64.wrap (32 + (IntKind.i64.wrap (Int.tdiv (IntKind.i64.wrap ((IntKind.i64.wrap ((IntKind.i64.wrap (2 * (i : Int))) + 1)) * 32)) (IntKind.i64.wrap (2 * (n : Int)))))) = wS n i := by
      have hw := wS_le (n := n) (i := i) (by omega)
      have hdiv : (2 * (i : Int) + 1) * 32 / (2 * (n : Int)) = (2 * (i : Int) + 1) * 16 / (n : Int) := by
        rw [show (2 * (i : Int) + 1) * 32 = 2 * ((2 * (i : Int) + 1) * 16) by omega]
        exact Int.mul_ediv_mul_of_pos _ _ (by decide)
      unfold wS at *
      rw [w64 (x := 2 * (i : Int)) (by omega), w64 (x := 2 * (i : Int) + 1) (by omega), w64 (x := (2 * (i : Int) + 1) * 32) (by omega), w64 (x := 2 * (n : Int)) (by omega), Int.tdiv_eq_ediv_of_nonneg (by omega), hdiv, w64 (x := (2 * (i : Int) + 1) * 16 / (n : Int)) (by omega), w64 (by omega)]
    rw [e]
    obtain ⟨s, M', h1, h2, h3, h4, _, h5⟩ := hg.app (lo := lo) (bytes := 8) (c := c) (m := 1) (vs := [.int .i64 (wS n i)]) hp hlo (by simp) (by omega) (by omega)
    refine Evp.some h1 (Evp.ret ?_)
    have h5 := h5 hc
    have e2 : ((wL n).take i).map (Value.int .i64) ++ [.int .i64 (wS n i)] = ((wL n).take (i + 1)).map (Value.int .i64) := by
      rw [List.take_succ_eq_append_getElem (by rw [wL_len]; omega), List.map_append]
      congr 2
      have := wL_get (n := n) (i := i) (by omega)
      rw [List.getD_eq_getElem?_getD, List.getElem?_eq_getElem (by rw [wL_len]; omega)] at this
      simpa using this.symm
    rw [h3, e2] at h2
    rw [h3] at h5
    rw [h3, w64 (by omega)]
    exact ih (i + 1) s.a s.c M' (by omega) (by omega) h4 h5 h2
theorem rweights_ok (lo : Nat) (n : Int) (M : Mem) (hlo : lo ≤ M.length) : Ac P T lo F.zoetroperef15_Weights [.int .i64 n] M (WeightsR M n) := by
  have bad : ¬ (4 ≤ n ∧ n ≤ 32) → Run P T lo F.zoetroperef15_Weights (.ret (.tuple ⟨[.slice none 0 0, .int .i64 2]⟩) M) (WeightsR M n) := fun h => Run.ret ⟨Pre.refl _, by rw [if_neg h]⟩
  refine Ac.of (Evp.of_eq (fun k => zoetroperef15_Weights.entry k ..) ?_)
  refine Evp.dec (fun h => Evp.ret (bad (by omega))) fun h => ?_
  refine Evp.dec (fun h => Evp.ret (bad (by omega))) fun h2 => ?_
  obtain ⟨m, rfl⟩ := Int.eq_ofNat_of_zero_le (a := n) (by omega)
  exact Evp.ret (rweights_loop lo m M (by omega) hlo _ 0 none 0 M rfl (by omega) (Pre.refl _) (by omega) Grow.nil)

/-! ### Pairs -/
def pS (x y : Int) : Int := (x + y + 1) / 2
def pL (xs ys : List Int) : List Int := (List.range xs.length).map fun i => pS (xs.getD i 0) (ys.getD i 0)
theorem pL_len (xs ys : List Int) : (pL xs ys).length = xs.length := by simp [pL]
theorem pL_get {xs ys : List Int} {i : Nat} (h : i < xs.length) : (pL xs ys).getD i 0 = pS (xs.getD i 0) (ys.getD i 0) := getD_map_range h
theorem pL_bytes {xs ys : List Int} (bx : Bytes xs) (by_ : Bytes ys) : Bytes (pL xs ys) := fun z hz => by
  unfold pL at hz
  obtain ⟨i, _, rfl⟩ := List.mem_map.1 hz
  have h1 := bx.get i
  have h2 := by_.get i
  unfold pS; omega
def PairR (M : Mem) (xs ys : List Int) (r : Value × Mem) : Prop :=
  Pre M r.2 ∧ if xs.length = ys.length then ∃ A cc, r.1 = .tuple ⟨[.slice A xs.length cc, .int .i64 0]⟩ ∧ xs.length ≤ cc ∧ OwnM M r.2 A (pL xs ys) else r.1 = .tuple ⟨[.slice none 0 0, .int .i64 2]⟩
section
variable (lo : Nat) (A B : Option Addr) (c cb : Nat) (xs ys : List Int) (M0 : Mem) (hlo : lo ≤ M0.length) (hx : RdI M0 .u8 A xs) (hy : RdI M0 .u8 B ys) (bx : Bytes xs) (by_ : Bytes ys) (hn : xs.length ≤ 140737488351232) (hl : xs.length = ys.length)
include hlo hy bx by_ hn hl in
theorem pair_loop (D : Option Addr) (cd : Nat) (hc : xs.length ≤ cd) : ∀ (d i : Nat) (zs : List Int) (M : Mem), xs.length - i = d → i ≤ xs.length → zs.length = xs.length → (∀ j, j < xs.length → zs.getD j 0 = if j < i then pS (xs.getD j 0) (ys.getD j 0) else xs.getD j 0) → Pre M0 M → OwnM M0 M D zs →
    Run P T lo F.motion_Pair (motion_Pair.c244 D xs.length cd B ys.length cb (ys.length : Int) i M) (PairR M0 xs ys) := by
  intro d
  induction d with
  | zero =>
    intro i zs M hd hi hzl hz hp ho
    refine Run.cut (Evp.of_eq (fun k => motion_Pair.p244 k ..) ?_)
    refine Evp.dec (fun h => absurd h (by omega)) fun _ => ?_
    refine Evp.ret (Run.ret ⟨hp, ?_⟩)
    rw [if_pos hl]
    have e : zs = pL xs ys := ext_getD (by rw [hzl, pL_len]) fun j hj => by rw [hz j (by omega), if_pos (by omega), pL_get (by omega)]
    exact ⟨D, cd, rfl, hc, e ▸ ho⟩
  | succ d ih =>
    intro i zs M hd hi hzl hz hp ho
    rcases ho with rfl | ⟨a, rfl, hb⟩
    · simp at hzl; omega
    refine Run.cut (Evp.of_eq (fun k => motion_Pair.p244 k ..) ?_)
    refine Evp.dec (fun _ => ?_) fun h => absurd h (by omega)
    refine Evp.pos (by omega) ?_
    simp only [Int.toNat_natCast]
    refine Evp.ldI (hy.pre hp) (by omega) fun _ _ => ?_
    refine Evp.pos (by omega) (Evp.ldI hb.rdI (by omega) fun _ _ => ?_)
    refine Evp.pos (by omega) (Evp.some rfl ?_)
    have h1 := bx.get i
    have h2 := by_.get i
    have ez : zs.getD i 0 = xs.getD i 0 := by rw [hz i (by omega), if_neg (by omega)]
    rw [ez]
    have e : IntKind.u8.wrap (shrI .u64 (IntKind.u64.wrap ((IntKind.u64.wrap ((IntKind.u64.wrap (xs.getD i 0)) + (IntKind.u64.wrap (ys.getD i 0)))) + 1)) 1) = pS (xs.getD i 0) (ys.getD i 0) := by
      rw [wu64 (x := xs.getD i 0) (by omega), wu64 (x := ys.getD i 0) (by omega), wu64 (x := xs.getD i 0 + ys.getD i 0) (by omega), wu64 (x := xs.getD i 0 + ys.getD i 0 + 1) (by omega), shru 1 (by omega), show ((2 : Int) ^ 1) = 2 from rfl, wu8 (by omega)]; rfl
    rw [e]
    obtain ⟨M', h1', h2', h3, h4, h5⟩ := hb.st (lo := lo) (i := i) (vs := [.int .u8 (pS (xs.getD i 0) (ys.getD i 0))]) hp hlo (by simp; omega)
    refine Evp.some h1' ?_
    rw [setL_one, set_map] at h2'
    rw [w64 (by omega)]
    exact Evp.ret (ih (i + 1) _ M' (by omega) (by omega) (by simpa using hzl) (fun j hj => by
      rw [getD_set (by omega)]
      by_cases hji : j = i
      · rw [if_pos hji, if_pos (by omega), hji]
      · rw [if_neg hji, hz j hj]
        by_cases h' : j < i
        · rw [if_pos h', if_pos (by omega)]
        · rw [if_neg h', if_neg (by omega)]) h3 (.inr ⟨a, rfl, h2'⟩))
include hlo hx hy bx by_ hn in
theorem pair_ok : Ac P T lo F.motion_Pair [.slice A xs.length c, .slice B ys.length cb] M0 (PairR M0 xs ys) := by
  refine Ac.of (Evp.of_eq (fun k => motion_Pair.entry k ..) ?_)
  refine Evp.neb (fun h => Evp.ret (Run.ret ⟨Pre.refl _, by rw [if_neg (by omega)]⟩)) fun h => ?_
  have hl : xs.length = ys.length := by omega
  refine Evp.ob (cloneAny_ok lo A c xs M0 hx hn hlo) ?_
  rintro _ ⟨D, cd, M1, rfl, p1, hc, ho⟩
  simp only [ret_int, ret_bool, ret_flt, ret_slc, ret_str, ret_ptr, ret_agg, ret_tup, ob_some, bb_true, bb_false, List.getElem?_cons_zero, List.getElem?_cons_succ, List.length_cons, List.length_nil, Nat.reduceAdd, Nat.reduceLT]
  exact Evp.ret (pair_loop lo B cb xs ys M0 hlo hy bx by_ hn hl D cd hc _ 0 xs M1 rfl (by omega) rfl (fun j hj => by rw [if_neg (by omega)]) p1 ho)
include hlo hx hy bx by_ hn hl in
theorem rpair_loop : ∀ (d i : Nat) (D : Option Addr) (cd : Nat) (M : Mem), xs.length - i = d → i ≤ xs.length → Pre M0 M → i ≤ cd → Grow M0 M 1 D i (((pL xs ys).take i).map (Value.int .u8)) →
    Run P T lo F.zoetroperef15_Pair (zoetroperef15_Pair.c244 A xs.length c B ys.length cb D i cd i M) (PairR M0 xs ys) := by
  intro d
  induction d with
  | zero =>
    intro i D cd M hd hi hp hc hg
    obtain rfl : i = xs.length := by omega
    refine Run.cut (Evp.of_eq (fun k => zoetroperef15_Pair.p244 k ..) ?_)
    refine Evp.dec (fun h => absurd h (by omega)) fun _ => ?_
    refine Evp.ret (Run.ret ⟨hp, ?_⟩)
    rw [if_pos hl]
    refine ⟨D, cd, rfl, hc, ?_⟩
    rw [List.take_of_length_le (by rw [pL_len]; exact Nat.le_refl _)] at hg
    have : Grow M0 M 1 D (pL xs ys).length ((pL xs ys).map (Value.int .u8)) := by rw [pL_len]; exact hg
    exact this.own
  | succ d ih =>
    intro i D cd M hd hi hp hc hg
    refine Run.cut (Evp.of_eq (fun k => zoetroperef15_Pair.p244 k ..) ?_)
    refine Evp.dec (fun _ => ?_) fun h => absurd h (by omega)
    refine Evp.pos (by omega) ?_
    simp only [Int.toNat_natCast]
    refine Evp.ldI (hx.pre hp) (by omega) fun _ _ => ?_
    refine Evp.pos (by omega) (Evp.ldI (hy.pre hp) (by omega) fun _ _ => ?_)
    have h1 := bx.get i
    have h2 := by_.get i
    have e : IntKind.u8.wrap (IntKind.i64.wrap (Int.tdiv (IntKind.i64.wrap ((IntKind.i64.wrap ((IntKind.i64.wrap (xs.getD i 0)) + (IntKind.i64.wrap (ys.getD i 0)))) + 1)) 2)) = pS (xs.getD i 0) (ys.getD i 0) := by
      rw [w64 (x := xs.getD i 0) (by omega), w64 (x := ys.getD i 0) (by omega), w64 (x := xs.getD i 0 + ys.getD i 0) (by omega), w64 (x := xs.getD i 0 + ys.getD i 0 + 1) (by omega), Int.tdiv_eq_ediv_of_nonneg (by omega), w64 (by omega), wu8 (by omega)]; rfl
    rw [e]
    obtain ⟨s, M', q1, q2, q3, q4, _, q5⟩ := hg.app (lo := lo) (bytes := 1) (c := cd) (m := 1) (vs := [.int .u8 (pS (xs.getD i 0) (ys.getD i 0))]) hp hlo (by simp) (by omega) (by omega)
    refine Evp.some q1 (Evp.ret ?_)
    have q5 := q5 hc
    have e2 : ((pL xs ys).take i).map (Value.int .u8) ++ [.int .u8 (pS (xs.getD i 0) (ys.getD i 0))] = ((pL xs ys).take (i + 1)).map (Value.int .u8) := by
      rw [List.take_succ_eq_append_getElem (by rw [pL_len]; omega), List.map_append]
      congr 2
      have := pL_get (xs := xs) (ys := ys) (i := i) (by omega)
      rw [List.getD_eq_getElem?_getD, List.getElem?_eq_getElem (by rw [pL_len]; omega)] at this
      simpa using this.symm
    rw [q3, e2] at q2
    rw [q3] at q5
    rw [q3, w64 (by omega)]
    exact ih (i + 1) s.a s.c M' (by omega) (by omega) q4 q5 q2
include hlo hx hy bx by_ hn in
theorem rpair_ok : Ac P T lo F.zoetroperef15_Pair [.slice A xs.length c, .slice B ys.length cb] M0 (PairR M0 xs ys) := by
  refine Ac.of (Evp.of_eq (fun k => zoetroperef15_Pair.entry k ..) ?_)
  refine Evp.neb (fun h => Evp.ret (Run.ret ⟨Pre.refl _, by rw [if_neg (by omega)]⟩)) fun h => ?_
  exact Evp.ret (rpair_loop lo A B c cb xs ys M0 hlo hx hy bx by_ hn (by omega) _ 0 none 0 M0 rfl (by omega) (Pre.refl _) (by omega) Grow.nil)
end
theorem PairR.got {M M' : Mem} {xs ys : List Int} {v : Value} (h : PairR M xs ys (v, M')) (hl : xs.length = ys.length) : ∃ A cc, v = .tuple ⟨[.slice A xs.length cc, .int .i64 0]⟩ ∧ Pre M M' ∧ xs.length ≤ cc ∧ OwnM M M' A (pL xs ys) := by
  obtain ⟨p, h⟩ := h
  rw [if_pos hl] at h
  obtain ⟨A, cc, e, h1, h2⟩ := h
  exact ⟨A, cc, e, p, h1, h2⟩
theorem PairR.not {M M' : Mem} {xs ys : List Int} {v : Value} (h : PairR M xs ys (v, M')) (hl : xs.length ≠ ys.length) : v = .tuple ⟨[.slice none 0 0, .int .i64 2]⟩ ∧ Pre M M' := by
  obtain ⟨p, h⟩ := h
  rw [if_neg hl] at h
  exact ⟨h, p⟩

/-! ### What is told of two answers -/
theorem told_loop (lo : Nat) (A : Option Addr) (c n : Nat) (b : Bool) (M0 M1 : Mem) (hlo : lo ≤ M0.length) (hn : n ≤ 140737488351232) : ∀ (d i : Nat) (zs : List Int) (M : Mem), n - i = d → i ≤ n → zs.length = n → Pre M0 M → Keep A M1 M → OwnM M0 M A zs →
    Run P T lo F.zoetropelaw15_told (zoetropelaw15_told.c116 A n c b i M) fun r => ∃ M', r = (.bool b, M') ∧ Pre M0 M' ∧ Keep A M1 M' ∧ (n = 0 → M' = M) := by
  intro d
  induction d with
  | zero =>
    intro i zs M hd hi hl hp hk ho
    refine Run.cut (Evp.of_eq (fun k => zoetropelaw15_told.p116 k ..) ?_)
    refine Evp.dec (fun h => absurd h (by omega)) fun _ => ?_
    exact Evp.ret (Run.ret ⟨M, rfl, hp, hk, fun _ => rfl⟩)
  | succ d ih =>
    intro i zs M hd hi hl hp hk ho
    rcases ho with rfl | ⟨a, rfl, hb⟩
    · simp at hl; omega
    refine Run.cut (Evp.of_eq (fun k => zoetropelaw15_told.p116 k ..) ?_)
    refine Evp.dec (fun _ => ?_) fun h => absurd h (by omega)
    refine Evp.pos (by omega) ?_
    simp only [Int.toNat_natCast]
    refine Evp.ldI hb.rdI (by omega) fun _ _ => ?_
    refine Evp.pos (by omega) (Evp.some rfl ?_)
    obtain ⟨M', h1, h2, h3, h4, h5⟩ := hb.st (lo := lo) (i := i) (vs := [.int .u8 (xorI .u8 (zs.getD i 0) 255)]) hp hlo (by simp; omega)
    refine Evp.some h1 ?_
    rw [setL_one, set_map] at h2
    rw [w64 (by omega)]
    refine Evp.ret (Run.mono (ih (i + 1) _ M' (by omega) (by omega) (by simpa using hl) h3 (fun k x hx hne => h4 k x (hk k x hx hne) hne) (.inr ⟨a, rfl, h2⟩)) ?_)
    rintro _ ⟨M2, e1, e2, e3, _⟩
    exact ⟨M2, e1, e2, e3, fun e => absurd e (by omega)⟩
theorem told_ok (lo : Nat) (A B : Option Addr) (c c' : Nat) (xs ys : List Int) (e f : Int) (M0 M : Mem) (hlo : lo ≤ M0.length) (hp : Pre M0 M) (ho : OwnM M0 M A xs) (hy : RdI M .u8 B ys) (hn : xs.length ≤ 140737488351232) :
    Ac P T lo F.zoetropelaw15_told [.slice A xs.length c, .int .i64 e, .slice B ys.length c', .int .i64 f] M fun r => ∃ M', r = (.bool (decide (e = f ∧ xs = ys)), M') ∧ Pre M0 M' ∧ Keep A M M' ∧ (xs.length = 0 → M' = M) := by
  refine Ac.of (Evp.of_eq (fun k => zoetropelaw15_told.entry k ..) ?_)
  refine Evp.eqb (fun h => ?_) fun h => ?_
  · refine Evp.ob (eqBytes_ok _ _ _ _ _ _ _ _ ho.rd hy hn) ?_
    rintro _ rfl
    simp only [ret_int, ret_bool, ret_flt, ret_slc, ret_str, ret_ptr, ret_agg, ret_tup, ob_some, bb_true, bb_false, List.getElem?_cons_zero, List.getElem?_cons_succ, List.length_cons, List.length_nil, Nat.reduceAdd, Nat.reduceLT]
    have : decide (e = f ∧ xs = ys) = decide (xs = ys) := decide_eq_decide.2 ⟨fun q => q.2, fun q => ⟨h, q⟩⟩
    rw [this]
    exact Evp.ret (told_loop lo A c xs.length _ M0 M hlo hn _ 0 xs M rfl (by omega) rfl hp (fun b k h _ => h) ho)
  · rw [decide_eq_false (fun q => h q.1)]
    exact Evp.ret (told_loop lo A c xs.length _ M0 M hlo hn _ 0 xs M rfl (by omega) rfl hp (fun b k h _ => h) ho)
end Go.Zt
