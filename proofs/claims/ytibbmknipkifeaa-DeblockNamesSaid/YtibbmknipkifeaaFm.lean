/- Planes and cells: what may be, the spec of a pass. -/
import Derived.Test.YtibbmknipkifeaaFj
set_option linter.unusedVariables false
set_option linter.unusedSimpArgs false
set_option maxRecDepth 100000
namespace Go.Zt
theorem sizes_ok (lo : Nat) (w h : Int) (M : Mem) : Ac P T lo F.plane_sizes [.int .i64 w, .int .i64 h] M fun r => r = (.bool (decide (1 ≤ w ∧ w ≤ 512 ∧ 1 ≤ h ∧ h ≤ 512)), M) := by
  refine Ac.of (Evp.of_eq (fun k => plane_sizes.entry k ..) ?_)
  refine Evp.dec (fun h1 => ?_) fun h1 => ?_
  · refine Evp.dec (fun h2 => ?_) fun h2 => ?_
    · refine Evp.dec (fun h3 => ?_) fun h3 => ?_
      · refine Evp.ret (Run.ret ?_)
        congr 2
        exact decide_eq_decide.2 (by omega)
      · refine Evp.ret (Run.ret ?_)
        congr 2
        simp; omega
    · refine Evp.ret (Run.ret ?_)
      congr 2
      simp; omega
  · refine Evp.ret (Run.ret ?_)
    congr 2
    simp; omega

def checkS (w h n : Int) : Int := if 1 ≤ w ∧ w ≤ 512 ∧ 1 ≤ h ∧ h ≤ 512 ∧ n = w * h then 0 else 2
theorem area {w h : Int} (h1 : 1 ≤ w ∧ w ≤ 512 ∧ 1 ≤ h ∧ h ≤ 512) : 1 ≤ w * h ∧ w * h ≤ 262144 := by
  have hm : w * h ≤ 512 * 512 := Int.mul_le_mul h1.2.1 h1.2.2.2 (by omega) (by omega)
  have hm0 : 1 * 1 ≤ w * h := Int.mul_le_mul h1.1 h1.2.2.1 (by omega) (by omega)
  omega

theorem check_ok (lo : Nat) (w h : Int) (A : Option Addr) (n c : Nat) (M : Mem) : Ac P T lo F.plane_Check [.agg ⟨[.int .i64 w, .int .i64 h, .slice A n c]⟩] M fun r => r = (.int .i64 (checkS w h n), M) := by
  refine Ac.of (Evp.of_eq (fun k => plane_Check.entry k ..) ?_)
  refine Evp.ob (sizes_ok ..) ?_
  rintro _ rfl
  simp only [ret_int, ret_bool, ret_flt, ret_slc, ret_str, ret_ptr, ret_agg, ret_tup, ob_some, bb_true, bb_false, List.getElem?_cons_zero, List.getElem?_cons_succ, List.length_cons, List.length_nil, Nat.reduceAdd, Nat.reduceLT]
  refine Evp.nb (fun h1 => ?_) fun h1 => ?_
  · refine Evp.ret (Run.ret ?_)
    have := of_decide_eq_false h1
    unfold checkS
    rw [if_neg (by omega)]
  · have h1 := of_decide_eq_true h1
    have hm := area h1
    rw [w64 (by omega)]
    refine Evp.neb (fun h2 => ?_) fun h2 => ?_
    · refine Evp.ret (Run.ret ?_)
      unfold checkS
      rw [if_neg (by omega)]
    · refine Evp.ret (Run.ret ?_)
      unfold checkS
      rw [if_pos (by omega)]

theorem checkS_len' {w h n : Int} (h0 : checkS w h n = 0) : 1 ≤ w ∧ w ≤ 512 ∧ 1 ≤ h ∧ h ≤ 512 ∧ n = w * h := by
  unfold checkS at h0
  split at h0
  · assumption
  · omega
theorem rcheck_ok (lo : Nat) (w h : Int) (A : Option Addr) (n c : Nat) (M : Mem) : Ac P T lo F.zoetroperef05_Check [.agg ⟨[.int .i64 w, .int .i64 h, .slice A n c]⟩] M fun r => r = (.int .i64 (checkS w h n), M) := by
  refine Ac.of (Evp.of_eq (fun k => zoetroperef05_Check.entry k ..) ?_)
  refine Evp.dec (fun h1 => Evp.ret (Run.ret (by unfold checkS; rw [if_neg (by omega)]))) fun h1 => ?_
  refine Evp.dec (fun h2 => Evp.ret (Run.ret (by unfold checkS; rw [if_neg (by omega)]))) fun h2 => ?_
  refine Evp.dec (fun h3 => Evp.ret (Run.ret (by unfold checkS; rw [if_neg (by omega)]))) fun h3 => ?_
  refine Evp.dec (fun h4 => Evp.ret (Run.ret (by unfold checkS; rw [if_neg (by omega)]))) fun h4 => ?_
  have hm := area (w := w) (h := h) (by omega)
  rw [w64 (by omega)]
  refine Evp.neb (fun h5 => ?_) fun h5 => ?_
  · exact Evp.ret (Run.ret (by unfold checkS; rw [if_neg (by omega)]))
  · exact Evp.ret (Run.ret (by unfold checkS; rw [if_pos (by omega)]))

theorem copyPlane_ok (lo : Nat) (w h : Int) (A : Option Addr) (c : Nat) (xs : List Int) (M : Mem) (hx : RdI M .u8 A xs) (hn : xs.length ≤ 140737488351232) :
    Ac P T lo F.zoetroperef05_CopyPlane [.agg ⟨[.int .i64 w, .int .i64 h, .slice A xs.length c]⟩] M fun r => ∃ A' c' M', r = (.agg ⟨[.int .i64 w, .int .i64 h, .slice A' xs.length c']⟩, M') ∧ Pre M M' ∧ xs.length ≤ c' ∧ Grow M M' 1 A' xs.length (xs.map (Value.int .u8)) := by
  refine Ac.of (Evp.of_eq (fun k => zoetroperef05_CopyPlane.entry k ..) ?_)
  refine Evp.ob (copyBytes_ok _ _ _ _ _ hx hn (Nat.le_refl _)) ?_
  rintro _ ⟨A', c', M', rfl, h1, h3, h2⟩
  simp only [ret_int, ret_bool, ret_flt, ret_slc, ret_str, ret_ptr, ret_agg, ret_tup, ob_some, bb_true, bb_false, List.getElem?_cons_zero, List.getElem?_cons_succ, List.length_cons, List.length_nil, Nat.reduceAdd, Nat.reduceLT]
  exact Evp.ret (Run.ret ⟨A', c', M', rfl, h1, h3, h2⟩)
def TxP (t : Int) : Prop := t = 4 ∨ t = 8 ∨ t = 16 ∨ t = 32 ∨ t = 64
instance (t : Int) : Decidable (TxP t) := inferInstanceAs (Decidable (_ ∨ _))
abbrev sizesL : List Int := [4, 8, 16, 32, 64]
theorem containsS_ok (lo : Nat) (v : Int) (M : Mem) (A : Option Addr) (hx : RdI M .u8 A sizesL) : Ac P T lo F.slices_Contains__uint8_uint8 [.slice A 5 5, .int .u8 v] M fun r => r = (.bool (decide (TxP v)), M) := by
  have idx : Ac P T lo F.slices_Index__uint8_uint8 [.slice A 5 5, .int .u8 v] M fun r => ∃ z : Int, r = (.int .i64 z, M) ∧ (z ≥ 0 ↔ TxP v) := by
    unfold TxP
    refine Ac.of (Evp.of_eq (fun k => slices_Index__uint8_uint8.entry k ..) ?_)
    refine Evp.ret ?_
    refine Run.cut (Evp.of_eq (fun k => slices_Index__uint8_uint8.p52 k ..) ?_)
    refine Evp.tt rfl (Evp.pos (by decide) (Evp.ldI (i := 0) hx (by decide) fun _ _ => ?_))
    refine Evp.eqb (fun h => Evp.ret (Run.ret ⟨_, rfl, by simp [h]⟩)) fun h0 => ?_
    rw [show IntKind.i64.wrap (0 + 1) = 1 from by decide]
    refine Evp.ret ?_
    refine Run.cut (Evp.of_eq (fun k => slices_Index__uint8_uint8.p52 k ..) ?_)
    refine Evp.tt rfl (Evp.pos (by decide) (Evp.ldI (i := 1) hx (by decide) fun _ _ => ?_))
    refine Evp.eqb (fun h => Evp.ret (Run.ret ⟨_, rfl, by simp [h]⟩)) fun h1 => ?_
    rw [show IntKind.i64.wrap (1 + 1) = 2 from by decide]
    refine Evp.ret ?_
    refine Run.cut (Evp.of_eq (fun k => slices_Index__uint8_uint8.p52 k ..) ?_)
    refine Evp.tt rfl (Evp.pos (by decide) (Evp.ldI (i := 2) hx (by decide) fun _ _ => ?_))
    refine Evp.eqb (fun h => Evp.ret (Run.ret ⟨_, rfl, by simp [h]⟩)) fun h2 => ?_
    rw [show IntKind.i64.wrap (2 + 1) = 3 from by decide]
    refine Evp.ret ?_
    refine Run.cut (Evp.of_eq (fun k => slices_Index__uint8_uint8.p52 k ..) ?_)
    refine Evp.tt rfl (Evp.pos (by decide) (Evp.ldI (i := 3) hx (by decide) fun _ _ => ?_))
    refine Evp.eqb (fun h => Evp.ret (Run.ret ⟨_, rfl, by simp [h]⟩)) fun h3 => ?_
    rw [show IntKind.i64.wrap (3 + 1) = 4 from by decide]
    refine Evp.ret ?_
    refine Run.cut (Evp.of_eq (fun k => slices_Index__uint8_uint8.p52 k ..) ?_)
    refine Evp.tt rfl (Evp.pos (by decide) (Evp.ldI (i := 4) hx (by decide) fun _ _ => ?_))
    refine Evp.eqb (fun h => Evp.ret (Run.ret ⟨_, rfl, by simp [h]⟩)) fun h4 => ?_
    rw [show IntKind.i64.wrap (4 + 1) = 5 from by decide]
    refine Evp.ret ?_
    refine Run.cut (Evp.of_eq (fun k => slices_Index__uint8_uint8.p52 k ..) ?_)
    refine Evp.ff rfl (Evp.ret (Run.ret ⟨-1, rfl, ?_⟩))
    have e0 : sizesL.getD 0 0 = 4 := rfl
    have e1 : sizesL.getD 1 0 = 8 := rfl
    have e2 : sizesL.getD 2 0 = 16 := rfl
    have e3 : sizesL.getD 3 0 = 32 := rfl
    have e4 : sizesL.getD 4 0 = 64 := rfl
    omega
  refine Ac.of (Evp.of_eq (fun k => slices_Contains__uint8_uint8.entry k ..) ?_)
  refine Evp.ob idx ?_
  rintro _ ⟨z, rfl, hz⟩
  simp only [ret_int, ret_bool, ret_flt, ret_slc, ret_str, ret_ptr, ret_agg, ret_tup, ob_some, bb_true, bb_false, List.getElem?_cons_zero, List.getElem?_cons_succ, List.length_cons, List.length_nil, Nat.reduceAdd, Nat.reduceLT]
  refine Evp.ret (Run.ret ?_)
  congr 2
  exact decide_eq_decide.2 hz
theorem mayfun_ok (lo : Nat) (v : Int) (M : Mem) (A : Option Addr) (b : Addr) (hx : RdI M .u8 A sizesL) (hb : M.ld b = some (.slice A 5 5)) : Ac P T lo F.deblock_may_1 [.int .u8 v, .pointer (some b)] M fun r => r = (.bool (!decide (TxP v)), M) := by
  refine Ac.of (Evp.of_eq (fun k => deblock_may_1.entry k ..) ?_)
  refine Evp.some (b := ⟨A, 5, 5⟩) (by rw [hb]; rfl) ?_
  refine Evp.ob (containsS_ok lo v M A hx) ?_
  rintro _ rfl
  simp only [ret_int, ret_bool, ret_flt, ret_slc, ret_str, ret_ptr, ret_agg, ret_tup, ob_some, bb_true, bb_false, List.getElem?_cons_zero, List.getElem?_cons_succ, List.length_cons, List.length_nil, Nat.reduceAdd, Nat.reduceLT]
  exact Evp.ret (Run.ret rfl)
theorem getD_mem {xs : List Int} {i : Nat} (h : i < xs.length) : xs.getD i 0 ∈ xs := by
  rw [List.getD_eq_getElem?_getD, List.getElem?_eq_getElem h]; exact List.getElem_mem h
section
variable (lo : Nat) (A S : Option Addr) (c : Nat) (tx : List Int) (b : Addr) (M : Mem) (hx : RdI M .u8 A tx) (hs : RdI M .u8 S sizesL) (hb : M.ld b = some (.slice S 5 5)) (hn : tx.length ≤ 140737488351232)
include hx hs hb hn
theorem indexT_loop : ∀ (q i : Nat), tx.length - i = q → i ≤ tx.length → (∀ j, j < i → TxP (tx.getD j 0)) → Run P T lo F.slices_IndexFunc__uint8_uint8 (slices_IndexFunc__uint8_uint8.c52 A tx.length c (.func (.func F.deblock_may_1) ⟨[]⟩ ⟨[.pointer (some b)]⟩) tx.length i M) fun r => ∃ z : Int, r = (.int .i64 z, M) ∧ (z ≥ 0 ↔ ∃ t ∈ tx, ¬ TxP t) := by
  intro q
  induction q with
  | zero =>
    intro i hq hi hj
    refine Run.cut (Evp.of_eq (fun k => slices_IndexFunc__uint8_uint8.p52 k ..) ?_)
    refine Evp.dec (fun h => absurd h (by omega)) fun _ => ?_
    refine Evp.ret (Run.ret ⟨-1, rfl, ⟨fun e => absurd e (by decide), ?_⟩⟩)
    rintro ⟨u, hu, hn⟩
    obtain ⟨j, hj', rfl⟩ := List.mem_iff_getElem.1 hu
    have := hj j (by omega)
    rw [List.getD_eq_getElem?_getD, List.getElem?_eq_getElem hj'] at this
    exact absurd this hn
  | succ q ih =>
    intro i hq hi hj
    refine Run.cut (Evp.of_eq (fun k => slices_IndexFunc__uint8_uint8.p52 k ..) ?_)
    refine Evp.dec (fun _ => ?_) fun h => absurd h (by omega)
    refine Evp.pos (by omega) ?_
    simp only [Int.toNat_natCast]
    refine Evp.ldI hx (by omega) fun _ _ => ?_
    refine Evp.some (b := (F.deblock_may_1, [], [.pointer (some b)])) rfl ?_
    refine Evp.ob (mayfun_ok lo (tx.getD i 0) M S b hs hb) ?_
    rintro _ rfl
    simp only [ret_int, ret_bool, ret_flt, ret_slc, ret_str, ret_ptr, ret_agg, ret_tup, ob_some, bb_true, bb_false, List.getElem?_cons_zero, List.getElem?_cons_succ, List.length_cons, List.length_nil, Nat.reduceAdd, Nat.reduceLT]
    refine Evp.nb (fun g => Evp.ret (Run.ret ⟨_, rfl, ⟨fun _ => ⟨_, getD_mem (show i < tx.length by omega), of_decide_eq_false g⟩, fun _ => by omega⟩⟩)) fun g => ?_
    rw [w64 (by omega)]
    refine Evp.ret (ih (i + 1) (by omega) (by omega) fun j hj' => ?_)
    by_cases hji : j = i
    · rw [hji]; exact of_decide_eq_true g
    · exact hj j (by omega)
theorem containsT_ok : Ac P T lo F.slices_ContainsFunc__uint8_uint8 [.slice A tx.length c, .func (.func F.deblock_may_1) ⟨[]⟩ ⟨[.pointer (some b)]⟩] M fun r => ∃ z : Bool, r = (.bool z, M) ∧ (z = true ↔ ∃ t ∈ tx, ¬ TxP t) := by
  refine Ac.of (Evp.of_eq (fun k => slices_ContainsFunc__uint8_uint8.entry k ..) ?_)
  have idx : Ac P T lo F.slices_IndexFunc__uint8_uint8 [.slice A tx.length c, .func (.func F.deblock_may_1) ⟨[]⟩ ⟨[.pointer (some b)]⟩] M fun r => ∃ z : Int, r = (.int .i64 z, M) ∧ (z ≥ 0 ↔ ∃ t ∈ tx, ¬ TxP t) := by
    refine Ac.of (Evp.of_eq (fun k => slices_IndexFunc__uint8_uint8.entry k ..) ?_)
    exact Evp.ret (indexT_loop lo A S c tx b M hx hs hb hn _ 0 rfl (by omega) fun j hj => absurd hj (by omega))
  refine Evp.ob idx ?_
  rintro _ ⟨z, rfl, hz⟩
  simp only [ret_int, ret_bool, ret_flt, ret_slc, ret_str, ret_ptr, ret_agg, ret_tup, ob_some, bb_true, bb_false, List.getElem?_cons_zero, List.getElem?_cons_succ, List.length_cons, List.length_nil, Nat.reduceAdd, Nat.reduceLT]
  exact Evp.ret (Run.ret ⟨_, rfl, by rw [decide_eq_true_iff]; exact hz⟩)
end
def MayP (w h nx mw mh : Int) (tx : List Int) (ni nq : Int) : Prop := checkS w h nx = 0 ∧ w % 4 = 0 ∧ h % 4 = 0 ∧ mw = w / 4 ∧ mh = h / 4 ∧ tx.length = mw * mh ∧ ni = mw * mh ∧ nq = mw * mh ∧ ∀ t ∈ tx, TxP t
noncomputable instance (w h nx mw mh : Int) (tx : List Int) (ni nq : Int) : Decidable (MayP w h nx mw mh tx ni nq) := Classical.propDecidable _
theorem tmod4 {w : Int} (h : 0 ≤ w) : Int.tmod w 4 = w % 4 := Int.tmod_eq_emod_of_nonneg h
theorem tdiv4 {w : Int} (h : 0 ≤ w) : Int.tdiv w 4 = w / 4 := Int.tdiv_eq_ediv_of_nonneg h
theorem small_cells {w h : Int} (s : 1 ≤ w ∧ w ≤ 512 ∧ 1 ≤ h ∧ h ≤ 512) : IntKind.i64.wrap (w / 4) = w / 4 ∧ IntKind.i64.wrap (h / 4) = h / 4 ∧ IntKind.i64.wrap (w / 4 * (h / 4)) = w / 4 * (h / 4) ∧ 0 ≤ w / 4 * (h / 4) ∧ w / 4 * (h / 4) ≤ 16384 := by
  have a1 : 0 ≤ w / 4 ∧ w / 4 ≤ 128 := by omega
  have a2 : 0 ≤ h / 4 ∧ h / 4 ≤ 128 := by omega
  generalize w / 4 = p at *
  generalize h / 4 = q at *
  have m : p * q ≤ 128 * 128 := Int.mul_le_mul a1.2 a2.2 a2.1 (by decide)
  have m0 : 0 ≤ p * q := Int.mul_nonneg a1.1 a2.1
  generalize p * q = r at *
  exact ⟨w64 (by omega), w64 (by omega), w64 (by omega), m0, by omega⟩
section
variable (lo : Nat) (w h mw mh : Int) (A AT AI AQ : Option Addr) (n c ct ni ci nq cq : Nat) (tx : List Int) (M : Mem) (hlo : lo ≤ M.length) (hT : RdI M .u8 AT tx) (hnt : tx.length ≤ 140737488351232)
include hlo hT hnt
theorem may_ok : Ac P T lo F.deblock_may [.agg ⟨[.int .i64 w, .int .i64 h, .slice A n c]⟩, .agg ⟨[.int .i64 mw, .int .i64 mh, .slice AT tx.length ct, .slice AI ni ci, .slice AQ nq cq]⟩] M fun r => ∃ M', r = (.bool (decide (MayP w h n mw mh tx ni nq)), M') ∧ Pre M M' := by
  have bad : ∀ M', Pre M M' → ¬ MayP w h n mw mh tx ni nq → Run P T lo F.deblock_may (.ret (.bool false) M') fun r => ∃ M', r = (.bool (decide (MayP w h n mw mh tx ni nq)), M') ∧ Pre M M' := fun M' hp hno => Run.ret ⟨M', by rw [decide_eq_false hno], hp⟩
  refine Ac.of (Evp.of_eq (fun k => deblock_may.entry k ..) ?_)
  refine Evp.ob (check_ok ..) ?_
  rintro _ rfl
  simp only [ret_int, ret_bool, ret_flt, ret_slc, ret_str, ret_ptr, ret_agg, ret_tup, ob_some, bb_true, bb_false, List.getElem?_cons_zero, List.getElem?_cons_succ, List.length_cons, List.length_nil, Nat.reduceAdd, Nat.reduceLT]
  refine Evp.neb (fun g => Evp.ret (bad M (Pre.refl _) fun e => g e.1)) fun k1 => ?_
  have s1 := checkS_len' k1
  obtain ⟨c1, c2, c3, c4, c5⟩ := small_cells (w := w) (h := h) ⟨s1.1, s1.2.1, s1.2.2.1, s1.2.2.2.1⟩
  rw [tmod4 (by omega), tmod4 (by omega), tdiv4 (by omega), tdiv4 (by omega), c1, c2]
  refine Evp.neb (fun g => Evp.ret (bad M (Pre.refl _) fun e => g e.2.1)) fun k2 => ?_
  refine Evp.neb (fun g => Evp.ret (bad M (Pre.refl _) fun e => g e.2.2.1)) fun k3 => ?_
  refine Evp.neb (fun g => Evp.ret (bad M (Pre.refl _) fun e => g e.2.2.2.1)) fun k4 => ?_
  refine Evp.neb (fun g => Evp.ret (bad M (Pre.refl _) fun e => g e.2.2.2.2.1)) fun k5 => ?_
  have em : IntKind.i64.wrap (mw * mh) = mw * mh := by rw [k4, k5]; exact c3
  rw [em]
  have x1 := Pre.app M [⟨.fx, sizesL.map (Value.int .u8)⟩]
  have x2 := Pre.app (M ++ [⟨.fx, sizesL.map (Value.int .u8)⟩]) [⟨.fx, [.slice (some ⟨M.length, 0, none⟩) 5 5]⟩]
  have q2 := x1.trans x2
  refine Evp.some (push_st (Nat.le_trans hlo x1.len) rfl) ?_
  have hs : RdI ((M ++ [⟨.fx, sizesL.map (Value.int .u8)⟩]) ++ [⟨.fx, [.slice (some ⟨M.length, 0, none⟩) 5 5]⟩] : Mem) .u8 (some ⟨M.length, 0, none⟩) sizesL := (RdI.lit sizesL).pre x2
  have hb : ((M ++ [⟨.fx, sizesL.map (Value.int .u8)⟩]) ++ [⟨.fx, [.slice (some ⟨M.length, 0, none⟩) 5 5]⟩] : Mem).ld ⟨(M ++ [⟨.fx, sizesL.map (Value.int .u8)⟩] : Mem).length, 0, none⟩ = some (.slice (some ⟨M.length, 0, none⟩) 5 5) := fx_ld (push_self _ _) 0
  refine Evp.eqb (fun k6 => ?_) fun g => Evp.ret (bad _ q2 fun e => g e.2.2.2.2.2.1)
  refine Evp.eqb (fun k7 => ?_) fun g => Evp.ret (bad _ q2 fun e => g e.2.2.2.2.2.2.1)
  refine Evp.eqb (fun k8 => ?_) fun g => Evp.ret (bad _ q2 fun e => g e.2.2.2.2.2.2.2.1)
  refine Evp.ob (containsT_ok lo AT _ ct tx _ _ (hT.pre q2) hs hb hnt) ?_
  rintro _ ⟨z, rfl, hz⟩
  simp only [ret_int, ret_bool, ret_flt, ret_slc, ret_str, ret_ptr, ret_agg, ret_tup, ob_some, bb_true, bb_false, List.getElem?_cons_zero, List.getElem?_cons_succ, List.length_cons, List.length_nil, Nat.reduceAdd, Nat.reduceLT]
  refine Evp.ret (Run.ret ⟨_, ?_, q2⟩)
  congr 2
  rw [Bool.eq_iff_iff, decide_eq_true_iff, Bool.not_eq_true', ← Bool.not_eq_true, hz]
  constructor
  · intro hno
    refine ⟨k1, k2, k3, k4, k5, k6, k7, k8, fun t ht => ?_⟩
    by_cases g : TxP t
    · exact g
    · exact absurd ⟨t, ht, g⟩ hno
  · rintro e ⟨t, ht, g⟩
    exact g (e.2.2.2.2.2.2.2.2 t ht)
omit hlo in
theorem rmay_loop (h1 : checkS w h n = 0) (h2 : w % 4 = 0) (h3 : h % 4 = 0) (h4 : mw = w / 4) (h5 : mh = h / 4) (h6 : (tx.length : Int) = mw * mh) (h7 : (ni : Int) = mw * mh) (h8 : (nq : Int) = mw * mh) : ∀ (q i : Nat), tx.length - i = q → i ≤ tx.length → (∀ j, j < i → TxP (tx.getD j 0)) → Run P T lo F.zoetroperef22_may (zoetroperef22_may.c500 tx.length i mw mh AT tx.length ct AI ni ci AQ nq cq M) fun r => r = (.bool (decide (MayP w h n mw mh tx ni nq)), M) := by
  intro q
  induction q with
  | zero =>
    intro i hq hi hj
    refine Run.cut (Evp.of_eq (fun k => zoetroperef22_may.p500 k ..) ?_)
    refine Evp.dec (fun h => absurd h (by omega)) fun _ => ?_
    refine Evp.ret (Run.ret ?_)
    rw [decide_eq_true]
    refine ⟨h1, h2, h3, h4, h5, h6, h7, h8, fun t ht => ?_⟩
    obtain ⟨j, hj', rfl⟩ := List.mem_iff_getElem.1 ht
    have := hj j (by omega)
    rwa [List.getD_eq_getElem?_getD, List.getElem?_eq_getElem hj'] at this
  | succ q ih =>
    intro i hq hi hj
    refine Run.cut (Evp.of_eq (fun k => zoetroperef22_may.p500 k ..) ?_)
    refine Evp.dec (fun _ => ?_) fun h => absurd h (by omega)
    refine Evp.pos (by omega) ?_
    simp only [Int.toNat_natCast]
    refine Evp.ldI hT (by omega) fun _ _ => ?_
    have tx_ok : Ac P T lo F.zoetroperef22_tx [.int .u8 (tx.getD i 0)] M fun r => r = (.bool (decide (TxP (tx.getD i 0))), M) := by
      have yes : TxP (tx.getD i 0) → Run P T lo F.zoetroperef22_tx (.ret (.bool true) M) fun r => r = (.bool (decide (TxP (tx.getD i 0))), M) := fun g => Run.ret (by rw [decide_eq_true g])
      refine Ac.of (Evp.of_eq (fun k => zoetroperef22_tx.entry k ..) ?_)
      refine Evp.eqb (fun g => Evp.ret (yes (.inl g))) fun g0 => ?_
      refine Evp.eqb (fun g => Evp.ret (yes (.inr (.inl g)))) fun g1 => ?_
      refine Evp.eqb (fun g => Evp.ret (yes (.inr (.inr (.inl g))))) fun g2 => ?_
      refine Evp.eqb (fun g => Evp.ret (yes (.inr (.inr (.inr (.inl g)))))) fun g3 => ?_
      refine Evp.ret (Run.ret ?_)
      congr 2
      rw [Bool.eq_iff_iff, decide_eq_true_iff, beq_iff_eq]
      exact ⟨fun g => .inr (.inr (.inr (.inr g))), fun g => by unfold TxP at g; omega⟩
    refine Evp.ob tx_ok ?_
    rintro _ rfl
    simp only [ret_int, ret_bool, ret_flt, ret_slc, ret_str, ret_ptr, ret_agg, ret_tup, ob_some, bb_true, bb_false, List.getElem?_cons_zero, List.getElem?_cons_succ, List.length_cons, List.length_nil, Nat.reduceAdd, Nat.reduceLT]
    refine Evp.nb (fun g => Evp.ret (Run.ret ?_)) fun g => ?_
    · rw [decide_eq_false (p := MayP w h n mw mh tx ni nq) fun e => of_decide_eq_false g (e.2.2.2.2.2.2.2.2 _ (getD_mem (by omega)))]
    rw [w64 (by omega)]
    refine Evp.ret (ih (i + 1) (by omega) (by omega) fun j hj' => ?_)
    by_cases hji : j = i
    · rw [hji]; exact of_decide_eq_true g
    · exact hj j (by omega)
omit hlo in
theorem rmay_ok : Ac P T lo F.zoetroperef22_may [.agg ⟨[.int .i64 w, .int .i64 h, .slice A n c]⟩, .agg ⟨[.int .i64 mw, .int .i64 mh, .slice AT tx.length ct, .slice AI ni ci, .slice AQ nq cq]⟩] M fun r => r = (.bool (decide (MayP w h n mw mh tx ni nq)), M) := by
  have bad : ¬ MayP w h n mw mh tx ni nq → Run P T lo F.zoetroperef22_may (.ret (.bool false) M) fun r => r = (.bool (decide (MayP w h n mw mh tx ni nq)), M) := fun hno => Run.ret (by rw [decide_eq_false hno])
  refine Ac.of (Evp.of_eq (fun k => zoetroperef22_may.entry k ..) ?_)
  refine Evp.ob (rcheck_ok ..) ?_
  rintro _ rfl
  simp only [ret_int, ret_bool, ret_flt, ret_slc, ret_str, ret_ptr, ret_agg, ret_tup, ob_some, bb_true, bb_false, List.getElem?_cons_zero, List.getElem?_cons_succ, List.length_cons, List.length_nil, Nat.reduceAdd, Nat.reduceLT]
  refine Evp.neb (fun g => Evp.ret (bad fun e => g e.1)) fun k1 => ?_
  have s1 := checkS_len' k1
  obtain ⟨c1, c2, c3, c4, c5⟩ := small_cells (w := w) (h := h) ⟨s1.1, s1.2.1, s1.2.2.1, s1.2.2.2.1⟩
  rw [tmod4 (by omega), tmod4 (by omega), tdiv4 (by omega), tdiv4 (by omega), c1, c2]
  refine Evp.neb (fun g => Evp.ret (bad fun e => g e.2.1)) fun k2 => ?_
  refine Evp.neb (fun g => Evp.ret (bad fun e => g e.2.2.1)) fun k3 => ?_
  refine Evp.neb (fun g => Evp.ret (bad fun e => g e.2.2.2.1)) fun k4 => ?_
  refine Evp.neb (fun g => Evp.ret (bad fun e => g e.2.2.2.2.1)) fun k5 => ?_
  have em : IntKind.i64.wrap (mw * mh) = mw * mh := by rw [k4, k5]; exact c3
  rw [em]
  refine Evp.neb (fun g => Evp.ret (bad fun e => g e.2.2.2.2.2.1)) fun k6 => ?_
  refine Evp.neb (fun g => Evp.ret (bad fun e => g e.2.2.2.2.2.2.1)) fun k7 => ?_
  refine Evp.neb (fun g => Evp.ret (bad fun e => g e.2.2.2.2.2.2.2.1)) fun k8 => ?_
  rw [← k6]
  exact Evp.ret (rmay_loop lo w h mw mh AT AI AQ n ct ni ci nq cq tx M hT hnt k1 k2 k3 k4 k5 k6 k7 k8 _ 0 rfl (Nat.zero_le _) fun j hj => absurd hj (by omega))
end
/-! ### The spec -/
structure Cells where
  mw : Nat
  up : Bool
  col : Bool
  tx : List Int
  ids : List Int
  qs : List Bool
  level : Int
  sharp : Int
def secL (xs : List Int) (b st n : Nat) : List Int := (List.range n).map fun j => xs.getD (b + j * st) 0
def putL (xs : List Int) (b st : Nat) (zs : List Int) : Nat → List Int
  | 0 => xs
  | j + 1 => (putL xs b st zs j).set (b + j * st) (zs.getD j 0)
def lineS (xs : List Int) (b st n : Nat) (level sharp : Int) : List Int := putL xs b st (edgeL (secL xs b st n) level sharp) n
def tapsN (reach : Int) (col : Bool) : Nat := if reach < 8 then 4 else if col = true then 6 else if reach < 16 then 8 else 14
namespace Cells
variable (m : Cells) (W H : Nat)
def at_ (i : Nat) : Nat := if m.up then 4 * (i % m.mw) else 4 * (i / m.mw)
def side : Nat := if m.up then W else H
def prev (i : Nat) : Nat := if m.up then i - 1 else i - m.mw
def step : Nat := if m.up then 1 else W
def along : Nat := if m.up then W else 1
def skip (i : Nat) : Prop := m.at_ i = 0 ∨ (m.at_ i : Int) % m.tx.getD i 0 ≠ 0 ∨ (m.ids.getD i 0 = m.ids.getD (m.prev i) 0 ∧ m.qs.getD i false = true ∧ m.qs.getD (m.prev i) false = true)
instance (i : Nat) : Decidable (m.skip i) := inferInstanceAs (Decidable (_ ∨ _))
def reach (i : Nat) : Int := min (min (m.tx.getD i 0) (m.tx.getD (m.prev i) 0)) (min (m.at_ i : Int) ((m.side W H : Int) - m.at_ i))
def taps (i : Nat) : Nat := tapsN (m.reach W H i) m.col
def first (i k : Nat) : Nat := 4 * (i / m.mw) * W + 4 * (i % m.mw) + k * m.along W - m.taps W H i / 2 * m.step W
def linesS (xs : List Int) (i : Nat) : Nat → List Int
  | 0 => xs
  | k + 1 => lineS (linesS xs i k) (m.first W H i k) (m.step W) (m.taps W H i) m.level m.sharp
def cellS (xs : List Int) (i : Nat) : List Int := if m.skip i then xs else m.linesS W H xs i 4
def passS (xs : List Int) : Nat → List Int
  | 0 => xs
  | i + 1 => m.cellS W H (passS xs i) i
end Cells
theorem putL_len (xs : List Int) (b st : Nat) (zs : List Int) : ∀ n, (putL xs b st zs n).length = xs.length
  | 0 => rfl
  | n + 1 => by simp only [putL, List.length_set]; exact putL_len xs b st zs n
theorem secL_len (xs : List Int) (b st n : Nat) : (secL xs b st n).length = n := by simp [secL]
theorem secL_bytes {xs : List Int} (bx : Bytes xs) (b st n : Nat) : Bytes (secL xs b st n) := fun z hz => by
  unfold secL at hz
  obtain ⟨j, _, rfl⟩ := List.mem_map.1 hz
  exact bx.get _
end Go.Zt
