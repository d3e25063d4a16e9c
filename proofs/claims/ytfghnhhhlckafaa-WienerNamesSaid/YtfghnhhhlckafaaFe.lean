/- The document's Plane, whole; the program's look at the units. -/
import Derived.Test.YtfghnhhhlckafaaFd
set_option linter.unusedVariables false
set_option linter.unusedSimpArgs false
set_option maxRecDepth 100000
namespace Go.Zt
theorem un_get {us : List Un} {i : Nat} (hi : i < us.length) : us.getD i u0 ∈ us := by
  rw [List.getD_eq_getElem?_getD, List.getElem?_eq_getElem hi]; exact List.getElem_mem hi
section
variable (lo : Nat) (AU A B : Option Addr) (cu cap capb : Nat) (us : List Un) (xs bs : List Int) (w h w' h' side : Int) (M0 : Mem)
variable (hlo : lo ≤ M0.length) (hU : RdU M0 AU us) (hwf : ∀ u ∈ us, u.wf) (hul : us.length ≤ 140737488351232) (hx : RdI M0 .u8 A xs) (hb : RdI M0 .u8 B bs) (bx : Bytes xs) (bb' : Bytes bs)
include hlo hU hwf hx hb bx bb'
theorem rplane_ok : Ac P T lo F.zoetroperef24_Plane [.agg ⟨[.int .i64 w, .int .i64 h, .slice A xs.length cap]⟩, .agg ⟨[.int .i64 w', .int .i64 h', .slice B bs.length capb]⟩, .slice AU us.length cu, .int .i64 side] M0 (PlaneR M0 us w h w' h' side xs bs) := by
  have bad : ¬ PlaneOk us w h xs.length w' h' bs.length side → Run P T lo F.zoetroperef24_Plane (.ret (.tuple ⟨[.agg ⟨[.int .i64 0, .int .i64 0, .slice none 0 0]⟩, .int .i64 2]⟩) M0) (PlaneR M0 us w h w' h' side xs bs) := fun hno => Run.ret ⟨Pre.refl _, by rw [if_neg hno]⟩
  refine Ac.of (Evp.of_eq (fun k => zoetroperef24_Plane.entry k ..) ?_)
  refine Evp.ob (rcheck_ok ..) ?_
  rintro _ rfl
  simp only [ret_int, ret_bool, ret_flt, ret_slc, ret_str, ret_ptr, ret_agg, ret_tup, ob_some, bb_true, bb_false, List.getElem?_cons_zero, List.getElem?_cons_succ, List.length_cons, List.length_nil, Nat.reduceAdd, Nat.reduceLT]
  refine Evp.neb (fun g => Evp.ret (bad fun e => g e.1)) fun k1 => ?_
  refine Evp.ob (rcheck_ok ..) ?_
  rintro _ rfl
  simp only [ret_int, ret_bool, ret_flt, ret_slc, ret_str, ret_ptr, ret_agg, ret_tup, ob_some, bb_true, bb_false, List.getElem?_cons_zero, List.getElem?_cons_succ, List.length_cons, List.length_nil, Nat.reduceAdd, Nat.reduceLT]
  refine Evp.neb (fun g => Evp.ret (bad fun e => g e.2.1)) fun k2 => ?_
  refine Evp.neb (fun g => Evp.ret (bad fun e => g e.2.2.1)) fun k3 => ?_
  refine Evp.neb (fun g => Evp.ret (bad fun e => g e.2.2.2.1)) fun k4 => ?_
  subst k3; subst k4
  have s1 := checkS_len' k1
  have s2 := checkS_len' k2
  obtain ⟨w, rfl⟩ := Int.eq_ofNat_of_zero_le (a := w) (by omega)
  obtain ⟨h, rfl⟩ := Int.eq_ofNat_of_zero_le (a := h) (by omega)
  have n1 : xs.length = h * w := by have := s1.2.2.2.2; rw [← Int.natCast_mul, Nat.mul_comm] at this; omega
  have n2 : bs.length = h * w := by have := s2.2.2.2.2; rw [← Int.natCast_mul, Nat.mul_comm] at this; omega
  have rest : ∀ sd : Nat, SideP sd → side = (sd : Int) → Evp (fun k => pb (side = 0) none (pb (side = 0) none (bb ((us.length : Int) != IntKind.i64.wrap ((IntKind.i64.wrap (Int.tdiv (IntKind.i64.wrap ((IntKind.i64.wrap ((w : Int) + side)) - 1)) side)) * (IntKind.i64.wrap (Int.tdiv (IntKind.i64.wrap ((IntKind.i64.wrap ((h : Int) + side)) - 1)) side))))
      (some (.ret (.tuple ⟨[.agg ⟨[.int .i64 0, .int .i64 0, .slice none 0 0]⟩, .int .i64 2]⟩) M0))
      (some (zoetroperef24_Plane.c500 AU us.length cu side (IntKind.i64.wrap (Int.tdiv (IntKind.i64.wrap ((IntKind.i64.wrap ((w : Int) + side)) - 1)) side)) 0 w h A xs.length cap w h B bs.length capb 0 0 none 0 0 M0))))) fun out => Run P T lo F.zoetroperef24_Plane out (PlaneR M0 us w h w h side xs bs) := by
    rintro sd hs rfl
    have hs' : sd = 64 ∨ sd = 32 := hs
    obtain ⟨e1, a1, a2⟩ := wide_eq (n := w) hs (by omega)
    obtain ⟨e2, b1, b2⟩ := wide_eq (n := h) hs (by omega)
    have sm : wideN w sd * wideN h sd ≤ 16 * 16 := Nat.mul_le_mul a2 b2
    refine Evp.neg (by omega) (Evp.neg (by omega) ?_)
    rw [e1, e2, ← Int.natCast_mul, w64 (x := ((wideN w sd * wideN h sd : Nat) : Int)) (by omega)]
    refine Evp.neb (fun g => Evp.ret (bad fun e => ?_)) fun hl => ?_
    · have := e.2.2.2.2.2.1
      simp only [Int.toNat_natCast] at this
      exact g (by rw [this])
    have hl : us.length = wideN w sd * wideN h sd := by omega
    have loop : ∀ (q i : Nat), us.length - i = q → i ≤ us.length → (∀ j, j < i → UnitP (us.getD j u0)) → Run P T lo F.zoetroperef24_Plane (zoetroperef24_Plane.c500 AU us.length cu sd (wideN w sd : Nat) i w h A xs.length cap w h B bs.length capb 0 0 none 0 0 M0) (PlaneR M0 us w h w h sd xs bs) := by
      intro q
      induction q with
      | zero =>
        intro i hq hi hj
        have ok : PlaneOk us w h xs.length w h bs.length sd := ⟨k1, k2, rfl, rfl, by omega, by simp only [Int.toNat_natCast]; exact hl, fun u hu => by
          obtain ⟨j, hj', rfl⟩ := List.mem_iff_getElem.1 hu
          have := hj j (by omega)
          rw [List.getD_eq_getElem?_getD, List.getElem?_eq_getElem hj'] at this
          exact this⟩
        refine Run.cut (Evp.of_eq (fun k => zoetroperef24_Plane.p500 k ..) ?_)
        refine Evp.dec (fun h => absurd h (by omega)) fun _ => ?_
        have sm2 : h * w ≤ 512 * 512 := Nat.mul_le_mul (by omega) (by omega)
        refine Evp.ob (copyPlane_ok _ _ _ _ _ _ _ hx (by omega)) ?_
        rintro _ ⟨S, cs, M2, rfl, p2, g2, k⟩
        simp only [ret_int, ret_bool, ret_flt, ret_slc, ret_str, ret_ptr, ret_agg, ret_tup, ob_some, bb_true, bb_false, List.getElem?_cons_zero, List.getElem?_cons_succ, List.length_cons, List.length_nil, Nat.reduceAdd, Nat.reduceLT]
        have hpos : 1 * 1 ≤ h * w := Nat.mul_le_mul (by omega) (by omega)
        obtain ⟨ao, rfl, hbuf⟩ := k.buf (by omega)
        refine Evp.ret ?_
        have := rrows_loop lo AU A B cu cap capb us xs bs w h sd M0 hlo hU hx hb bx bb' (by omega) (by omega) n1 n2 hs hl ao cs g2 ok h 0 xs M2 (by omega) (by omega) p2 hbuf (by rw [Nat.zero_mul]; exact InvW.start n1)
        exact this
      | succ q ih =>
        intro i hq hi hj
        refine Run.cut (Evp.of_eq (fun k => zoetroperef24_Plane.p500 k ..) ?_)
        refine Evp.dec (fun _ => ?_) fun h => absurd h (by omega)
        refine Evp.pos (by omega) ?_
        simp only [Int.toNat_natCast]
        refine Evp.ldU hU (by omega) fun _ _ => ?_
        refine Evp.ob (rcheckU_ok lo (us.getD i u0) M0 (hwf _ (un_get (by omega)))) ?_
        rintro _ rfl
        simp only [ret_int, ret_bool, ret_flt, ret_slc, ret_str, ret_ptr, ret_agg, ret_tup, ob_some, bb_true, bb_false, List.getElem?_cons_zero, List.getElem?_cons_succ, List.length_cons, List.length_nil, Nat.reduceAdd, Nat.reduceLT]
        refine Evp.neb (fun g => Evp.ret (bad fun e => g ?_)) fun g => ?_
        · unfold checkU; rw [if_pos (e.2.2.2.2.2.2 _ (un_get (by omega)))]
        rw [w64 (by omega)]
        refine Evp.ret (ih (i + 1) (by omega) (by omega) fun j hj' => ?_)
        by_cases hji : j = i
        · rw [hji]
          unfold checkU at g
          by_cases hp : UnitP (us.getD i u0)
          · exact hp
          · rw [if_neg hp] at g; exact absurd g (by decide)
        · exact hj j (by omega)
    exact Evp.ret (loop _ 0 rfl (by omega) fun j hj => absurd hj (by omega))
  refine Evp.neb (fun g1 => ?_) fun g1 => rest 64 (.inl rfl) g1
  refine Evp.neb (fun g2 => Evp.ret (bad fun e => ?_)) fun g2 => rest 32 (.inr rfl) g2
  rcases e.2.2.2.2.1 with e | e
  · exact g1 e
  · exact g2 e
end
theorem bad_ok (lo : Nat) (u : Un) (M : Mem) (w : u.wf) : Ac P T lo F.wiener_Plane_1 [.agg ⟨u.cells⟩] M fun r => r = (.bool (checkU u != 0), M) := by
  refine Ac.of (Evp.of_eq (fun k => wiener_Plane_1.entry k ..) ?_)
  refine Evp.ob (wcheck_ok lo u M w) ?_
  rintro _ rfl
  simp only [ret_int, ret_bool, ret_flt, ret_slc, ret_str, ret_ptr, ret_agg, ret_tup, ob_some, bb_true, bb_false, List.getElem?_cons_zero, List.getElem?_cons_succ, List.length_cons, List.length_nil, Nat.reduceAdd, Nat.reduceLT]
  exact Evp.ret (Run.ret rfl)
section
variable (lo : Nat) (AU : Option Addr) (cu : Nat) (us : List Un) (M : Mem) (hU : RdU M AU us) (hwf : ∀ u ∈ us, u.wf) (hul : us.length ≤ 140737488351232)
include hU hwf hul
theorem index_loop : ∀ (q i : Nat), us.length - i = q → i ≤ us.length → (∀ j, j < i → UnitP (us.getD j u0)) → Run P T lo F.slices_IndexFunc__api_Unit_api_Unit (slices_IndexFunc__api_Unit_api_Unit.c52 AU us.length cu (.func (.func F.wiener_Plane_1) ⟨[]⟩ ⟨[]⟩) us.length i M) fun r => ∃ z : Int, r = (.int .i64 z, M) ∧ (z ≥ 0 ↔ ∃ u ∈ us, ¬ UnitP u) := by
  intro q
  induction q with
  | zero =>
    intro i hq hi hj
    refine Run.cut (Evp.of_eq (fun k => slices_IndexFunc__api_Unit_api_Unit.p52 k ..) ?_)
    refine Evp.dec (fun h => absurd h (by omega)) fun _ => ?_
    refine Evp.ret (Run.ret ⟨-1, rfl, ⟨fun e => absurd e (by decide), ?_⟩⟩)
    rintro ⟨u, hu, hn⟩
    obtain ⟨j, hj', rfl⟩ := List.mem_iff_getElem.1 hu
    have := hj j (by omega)
    rw [List.getD_eq_getElem?_getD, List.getElem?_eq_getElem hj'] at this
    exact absurd this hn
  | succ q ih =>
    intro i hq hi hj
    refine Run.cut (Evp.of_eq (fun k => slices_IndexFunc__api_Unit_api_Unit.p52 k ..) ?_)
    refine Evp.dec (fun _ => ?_) fun h => absurd h (by omega)
    refine Evp.pos (by omega) ?_
    simp only [Int.toNat_natCast]
    refine Evp.ldU hU (by omega) fun _ _ => ?_
    refine Evp.some (b := (F.wiener_Plane_1, [], [])) rfl ?_
    refine Evp.ob (bad_ok lo (us.getD i u0) M (hwf _ (un_get (by omega)))) ?_
    rintro _ rfl
    simp only [ret_int, ret_bool, ret_flt, ret_slc, ret_str, ret_ptr, ret_agg, ret_tup, ob_some, bb_true, bb_false, List.getElem?_cons_zero, List.getElem?_cons_succ, List.length_cons, List.length_nil, Nat.reduceAdd, Nat.reduceLT]
    refine Evp.neb (fun g => Evp.ret (Run.ret ⟨_, rfl, ⟨fun _ => ⟨_, un_get (show i < us.length by omega), fun hp => g (by unfold checkU; rw [if_pos hp])⟩, fun _ => by omega⟩⟩)) fun g => ?_
    rw [w64 (by omega)]
    refine Evp.ret (ih (i + 1) (by omega) (by omega) fun j hj' => ?_)
    by_cases hji : j = i
    · rw [hji]
      unfold checkU at g
      by_cases hp : UnitP (us.getD i u0)
      · exact hp
      · rw [if_neg hp] at g; exact absurd g (by decide)
    · exact hj j (by omega)
theorem containsU_ok : Ac P T lo F.slices_ContainsFunc__api_Unit_api_Unit [.slice AU us.length cu, .func (.func F.wiener_Plane_1) ⟨[]⟩ ⟨[]⟩] M fun r => ∃ b : Bool, r = (.bool b, M) ∧ (b = true ↔ ∃ u ∈ us, ¬ UnitP u) := by
  refine Ac.of (Evp.of_eq (fun k => slices_ContainsFunc__api_Unit_api_Unit.entry k ..) ?_)
  have idx : Ac P T lo F.slices_IndexFunc__api_Unit_api_Unit [.slice AU us.length cu, .func (.func F.wiener_Plane_1) ⟨[]⟩ ⟨[]⟩] M fun r => ∃ z : Int, r = (.int .i64 z, M) ∧ (z ≥ 0 ↔ ∃ u ∈ us, ¬ UnitP u) := by
    refine Ac.of (Evp.of_eq (fun k => slices_IndexFunc__api_Unit_api_Unit.entry k ..) ?_)
    exact Evp.ret (index_loop lo AU cu us M hU hwf hul _ 0 rfl (by omega) fun j hj => absurd hj (by omega))
  refine Evp.ob idx ?_
  rintro _ ⟨z, rfl, hz⟩
  simp only [ret_int, ret_bool, ret_flt, ret_slc, ret_str, ret_ptr, ret_agg, ret_tup, ob_some, bb_true, bb_false, List.getElem?_cons_zero, List.getElem?_cons_succ, List.length_cons, List.length_nil, Nat.reduceAdd, Nat.reduceLT]
  exact Evp.ret (Run.ret ⟨_, rfl, by rw [decide_eq_true_iff]; exact hz⟩)
end
end Go.Zt
